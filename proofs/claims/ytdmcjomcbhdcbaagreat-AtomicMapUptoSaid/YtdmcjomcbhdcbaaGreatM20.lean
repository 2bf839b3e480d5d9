/- Acts from outside, in both worlds: a fuse, offline, a plan.; An act from outside, in both worlds: a plan.; A world of one place: both drives are loaded. -/
import Derived.Test.YtdmcjomcbhdcbaaGreatM19
set_option linter.unusedVariables false
namespace Go.Proofs.YtdmcjomcbhdcbaaGreat
open Go.RowKit Go.Maps

/-- An act. -/
structure PAct where
  kind : Int
  place : Int
  at_ : Int
  n : Int
  data : List UInt8
  plan : List (Int × Int)
  round : Int
  call : Int
  inside : Int
/-- Where an act's slices lie. -/
structure ALay where
  da : Option Addr
  dc : Nat
  pa : Option Addr
  pc : Nat
  fa : Option Addr
  fn : Nat
  fc : Nat
def actCells (x : PAct) (L : ALay) : Array Value := #[.int .i64 x.kind, .int .i64 x.place, .int .i64 x.at_, .int .i64 x.n, .slice L.da x.data.length L.dc, .slice L.pa x.plan.length L.pc, .int .i64 x.round, .int .i64 x.call, .int .i64 x.inside, .slice L.fa L.fn L.fc]

section
variable {w : World} {h dg wg mg q p mq mp : Nat} {Av : Nat → Prop} {X Y : Wnd} {S T : Drv}
theorem fuse1 (hT : World1 w h Av dg wg mg q p mq mp X S Y T) (hh : h ≤ w.heap.size) (R C I : Int) :
    Calls Tryz.prog 60 #[.pointer (some ⟨q, 0, none⟩), .int .i64 R, .int .i64 C, .int .i64 I] w fun e w' => e = .returned (.tuple #[]) ∧ World1 w' h Av dg wg mg q p mq mp (X.setFuse R C I) S Y T ∧ Touch (fr h Av) w w' :=
  hT.on_wound hh fun F hd _ _ => (wfuse_any q p X S F R C I w hd).mono fun e w' ⟨he, a, b⟩ => ⟨_, _, a, b, fun k1 k2 => ⟨he, k1, k2⟩⟩
theorem offline1 (hT : World1 w h Av dg wg mg q p mq mp X S Y T) (hh : h ≤ w.heap.size) (off : Bool) :
    Calls Tryz.prog 58 #[.pointer (some ⟨q, 0, none⟩), .bool off] w fun e w' => e = .returned (.tuple #[]) ∧ World1 w' h Av dg wg mg q p mq mp { X with away := off } S Y T ∧ Touch (fr h Av) w w' :=
  hT.on_wound hh fun F hd _ _ => (woffline_any q p X S F off w hd).mono fun e w' ⟨he, a, b⟩ => ⟨_, _, a, b, fun k1 k2 => ⟨he, k1, k2⟩⟩
theorem arm1 (hT : World1 w h Av dg wg mg q p mq mp X S Y T) (hh : h ≤ w.heap.size) (A : Option Addr) (c : Nat) (l : List (Int × Int)) (hr : Reads w w.heap.size 2 A l.length (planCells l)) (hA : ∀ ad, A = some ad → ad.block < h ∨ Av ad.block) (hn : l.length * 16 ≤ 140737488351232) :
    Calls Tryz.prog 56 #[.pointer (some ⟨q, 0, none⟩), .slice A l.length c] w fun e w' => e = .returned (.tuple #[]) ∧ World1 w' h Av dg wg mg q p mq mp (X.arm l) S Y T ∧ Touch (fr h Av) w w' :=
  hT.on_wound hh fun F hd h1 h2 => (warm_any q p X S F A l.length c l w hd hr (fun _ ad e hf => by
    rcases hA ad e with h3 | h3
    · have := h1 _ hf; omega
    · exact h2 _ h3 hf) hn).mono fun e w' ⟨he, a, b⟩ => ⟨_, _, a, b, fun k1 k2 => ⟨he, k1, k2⟩⟩
end

set_option maxRecDepth 100000 in
set_option maxHeartbeats 8000000 in
theorem do_fuse (w : World) (h dg dc wg wc mg mc q p mq mp : Nat) (Av : Nat → Prop) (X Y : Wnd) (S T : Drv) (hT : World1 w h Av dg wg mg q p mq mp X S Y T) (hh : h ≤ w.heap.size) (hcap : Caps dc wc mc) (x : PAct) (L : ALay) (hk : x.kind = 4) :
    Calls Tryz.prog 23 #[bothV dg dc wg wc mg mc, .agg (actCells x L)] w fun e w' => e = .returned (.tuple #[]) ∧ World1 w' h Av dg wg mg q p mq mp (X.setFuse x.round x.call x.inside) S (Y.setFuse x.round x.call x.inside) T ∧ Touch (fr h Av) w w' := by
  obtain ⟨kind, place, at_, n, data, plan, R, C, I⟩ := x
  obtain ⟨da, dcc, pa, pc, fa, fn, fc⟩ := L
  simp only at hk
  subst hk
  unfold bothV actCells
  simp only
  obtain ⟨hc1, hc2, hc3⟩ := hcap
  have hr := hT.rows
  obtain ⟨r1, r2, r3, l1, l2, l3⟩ := hr
  have hmq0 : mq < w.heap.size := by obtain ⟨_, hg0, _⟩ := hT.gate hh; exact hg0.lt
  have hmqn : mq ≠ w.heap.size + 1 := by omega
  have hmqm : w.heap.size + 1 ≠ mq := by omega
  have HT := Lib.hid hT
  have HWB : Hid (∀ o1 o2, World1 ((w.alloc o1).alloc o2) h (fun k => Av k ∨ (w.heap.size ≤ k ∧ k < w.heap.size + 2)) dg wg mg q p mq mp X S Y T) := Lib.hid fun o1 o2 => by
    have := hT.boxed (w1 := (w.alloc o1).alloc o2) (((Below.refl _ w).alloc (Nat.le_refl _) _).alloc (by simp) _)
    rw [show ((w.alloc o1).alloc o2).heap.size = w.heap.size + 2 by simp] at this; exact this
  have HPK := Lib.hid pick_one
  clear hT
  go_enter Tryz.func23, Tryz.ntmps23
  go_wp2_with (first
    | (go_at_call 55; refine (HPK.out _ _).mono ?_; rintro e w' ⟨rfl, rfl⟩)
    | (go_at_call 60; go_must (refine (fuse1 (HWB.out _ _) (by simp; omega) R C I).mono ?_); rintro e w2 ⟨rfl, h2, t2⟩; have HT2 := Lib.hid h2; have HTT := Lib.hid t2; clear h2 t2))
  have hsz2 : w.heap.size + 2 ≤ w2.heap.size := by have := HTT.out.size; simpa using this
  have HAC : Hid (Blk w2 (w.heap.size + 1) 59 #[.int .i64 4, .int .i64 place, .int .i64 at_, .int .i64 n, .slice da data.length dcc, .slice pa plan.length pc, .int .i64 R, .int .i64 C, .int .i64 I, .slice fa fn fc]) := Lib.hid ((fr_av HTT.out (k := w.heap.size + 1) (.inr (by omega)) (by simp)).trans (blk_last _ _ _ _ (by simp)))
  have a6 : w2.cell? ⟨w.heap.size + 1, 6, none⟩ = some (.int .i64 R) := HAC.out.cell 6
  have a7 : w2.cell? ⟨w.heap.size + 1, 7, none⟩ = some (.int .i64 C) := HAC.out.cell 7
  have a8 : w2.cell? ⟨w.heap.size + 1, 8, none⟩ = some (.int .i64 I) := HAC.out.cell 8
  obtain ⟨g, hg, hgo⟩ := HT2.out.gate (by omega)
  have HGO := Lib.hid hgo
  obtain ⟨gd, ga, gpa, gpn, gpc, gk, gr, gl, gR, gC, gI⟩ := g
  have HGI := Lib.hid hg
  obtain ⟨gof, c1, c2, c3, c4, c5, c6, c7, c8, c9, gf, hmq⟩ := hg
  simp only at c1 c2 c3 c4 c5 c6 c7 c8 c9
  have HGF := Lib.hid gof
  clear hgo gof r1 r2 r3
  refine wp_region_held_drew (S := (fun w' => w'.cell? ⟨w.heap.size + 1, 6, none⟩ = some (.int .i64 R) ∧ w'.cell? ⟨w.heap.size + 1, 7, none⟩ = some (.int .i64 C) ∧ w'.cell? ⟨w.heap.size + 1, 8, none⟩ = some (.int .i64 I))) (by kernel_rfl) ?_ (fun hHeld => ?_)
  · ((try dsimp only); (first | (with_reducible exact HSK.out) | go_keep))
  refine wpAnyH_take (i := 0) (oi := _) (v := ?_) rfl (by kernel_rfl) (by kernel_rfl) (by kernel_rfl) (fun _ _ _ h => h) (Or.inl ⟨by rfl, ?_⟩) (by assumption) ?_
  rotate_left
  · (intro wS hSw; (try dsimp only at hSw); go_simp; try with_reducible rfl)
  try simp only [Act.put, List.setIfInBounds_toArray]
  refine wpAnyH_take (i := 1) (oi := _) (v := ?_) rfl (by kernel_rfl) (by kernel_rfl) (by kernel_rfl) (fun _ _ _ h => h) (Or.inl ⟨by rfl, ?_⟩) (by assumption) ?_
  rotate_left
  · (intro wS hSw; (try dsimp only at hSw); go_simp; try with_reducible rfl)
  try simp only [Act.put]
  refine wpAnyH_take (i := 2) (oi := _) (v := ?_) rfl (by kernel_rfl) (by kernel_rfl) (by kernel_rfl) (fun _ _ _ h => h) (Or.inl ⟨by rfl, ?_⟩) (by assumption) ?_
  rotate_left
  · (intro wS hSw; (try dsimp only at hSw); go_simp; try with_reducible rfl)
  try simp only [Act.put]
  refine wpAnyH_take (i := 3) (oi := _) (v := ?_) rfl (by kernel_rfl) (by kernel_rfl) (by kernel_rfl) (fun _ _ _ h => h) (Or.inl ⟨by rfl, ?_⟩) (by assumption) ?_
  rotate_left
  · (intro wS hSw; (try dsimp only at hSw); go_simp; try with_reducible rfl)
  try simp only [Act.put]
  refine wpAnyH_take (i := 5) (oi := _) (v := ?_) rfl (by kernel_rfl) (by kernel_rfl) (by kernel_rfl) (fun _ _ _ h => h) (Or.inl ⟨by rfl, ?_⟩) (by assumption) ?_
  rotate_left
  · (intro wS hSw; (try dsimp only at hSw); go_simp; try with_reducible rfl)
  try simp only [Act.put]
  refine wpAnyH_take (i := 6) (oi := _) (v := ?_) rfl (by kernel_rfl) (by kernel_rfl) (by kernel_rfl) (fun _ _ _ h => h) (Or.inl ⟨by rfl, ?_⟩) (by assumption) ?_
  rotate_left
  · (intro wS hSw; (try dsimp only at hSw); go_simp; try with_reducible rfl)
  try simp only [Act.put]
  refine wpAnyH_take (i := 7) (oi := _) (v := ?_) rfl (by kernel_rfl) (by kernel_rfl) (by kernel_rfl) (fun _ _ _ h => h) (Or.inl ⟨by rfl, ?_⟩) (by assumption) ?_
  rotate_left
  · (intro wS hSw; (try dsimp only at hSw); go_simp; try with_reducible rfl)
  try simp only [Act.put]
  refine wpAnyH_take (i := 8) (oi := _) (v := ?_) rfl (by kernel_rfl) (by kernel_rfl) (by kernel_rfl) (fun _ _ _ h => h) (Or.inl ⟨by rfl, ?_⟩) (by assumption) ?_
  rotate_left
  · (intro wS hSw; (try dsimp only at hSw); go_simp; try with_reducible rfl)
  try simp only [Act.put]
  refine wpAnyH_take (i := 9) (oi := _) (v := ?_) rfl (by kernel_rfl) (by kernel_rfl) (by kernel_rfl) (fun _ _ _ h => h) (Or.inl ⟨by rfl, ?_⟩) (by assumption) ?_
  rotate_left
  · (intro wS hSw; (try dsimp only at hSw); go_simp; try with_reducible rfl)
  try simp only [Act.put]
  refine wpAnyH_take (i := 10) (oi := _) (v := ?_) rfl (by kernel_rfl) (by kernel_rfl) (by kernel_rfl) (fun _ _ _ h => h) (Or.inl ⟨by rfl, ?_⟩) (by assumption) ?_
  rotate_left
  · (intro wS hSw; (try dsimp only at hSw); go_simp; try with_reducible rfl)
  try simp only [Act.put]
  refine wpAnyH_ready (rs := [4]) (by kernel_rfl) (by simp) (AllReadyH.cons (o := _) rfl (fun K hK => ?b1y1x4) AllReadyH.nil)
  go_simp
  refine hK.out _ _ ?_ (fun hHeld => ?_)
  · ((try dsimp only); (first | (with_reducible exact HSK.out) | go_keep))
  clear hK K; try simp only [Act.put, List.setIfInBounds_toArray, List.set_cons_zero, List.set_cons_succ]
  refine wpAnyH_ready (rs := [11]) (by kernel_rfl) (by simp) (AllReadyH.cons (o := _) rfl (fun K hK => ?b1y2x11) AllReadyH.nil)
  go_simp; go_at_call 61; refine (gfuse_any ⟨gd, ga, gpa, gpn, gpc, gk, gr, gl, gR, gC, gI⟩ R C I _).mono ?_; rintro e w3 ⟨he, hb3'⟩; simp only [gcells] at he; subst he; have hb3 : Below w2.heap.size w2 w3 := ⟨hb3'.os, hb3'.tape, hb3'.output, hb3'.size, hb3'.block⟩; have HB3 := Lib.hid hb3; have d1 := (hb3.cell (p := ⟨mq, 1, none⟩) hmq).trans HGI.out.c1; have d2 := (hb3.cell (p := ⟨mq, 2, none⟩) hmq).trans HGI.out.c2; have d3 := (hb3.cell (p := ⟨mq, 3, none⟩) hmq).trans HGI.out.c3; have d4 := (hb3.cell (p := ⟨mq, 4, none⟩) hmq).trans HGI.out.c4; have d5 := (hb3.cell (p := ⟨mq, 5, none⟩) hmq).trans HGI.out.c5; have d6 := (hb3.cell (p := ⟨mq, 6, none⟩) hmq).trans HGI.out.c6; have d7 := (hb3.cell (p := ⟨mq, 7, none⟩) hmq).trans HGI.out.c7; have d8 := (hb3.cell (p := ⟨mq, 8, none⟩) hmq).trans HGI.out.c8; have d9 := (hb3.cell (p := ⟨mq, 9, none⟩) hmq).trans HGI.out.c9; have df : ∀ i, w3.frozen? ⟨mq, i, none⟩ = false := (fun i => (hb3.frozen (p := ⟨mq, i, none⟩) hmq).trans (HGI.out.fz i)); have hmq3 : mq < w3.heap.size := Nat.lt_of_lt_of_le hmq hb3.size; have HSK : Hid (w3.cell? ⟨w.heap.size + 1, 6, none⟩ = some (.int .i64 R) ∧ w3.cell? ⟨w.heap.size + 1, 7, none⟩ = some (.int .i64 C) ∧ w3.cell? ⟨w.heap.size + 1, 8, none⟩ = some (.int .i64 I)) := Lib.hid ⟨(hb3.cell (p := ⟨w.heap.size + 1, 6, none⟩) (by show w.heap.size + 1 < _; omega)).trans a6, (hb3.cell (p := ⟨w.heap.size + 1, 7, none⟩) (by show w.heap.size + 1 < _; omega)).trans a7, (hb3.cell (p := ⟨w.heap.size + 1, 8, none⟩) (by show w.heap.size + 1 < _; omega)).trans a8⟩; clear hb3 hb3'
  refine hK.out _ _ ?_ (fun hHeld => ?_)
  · ((try dsimp only); (first | (with_reducible exact HSK.out) | go_keep))
  clear hK K; try simp only [Act.put, List.setIfInBounds_toArray, List.set_cons_zero, List.set_cons_succ]
  refine wpAnyH_take (i := 12) (oi := _) (v := ?_) rfl (by kernel_rfl) (by kernel_rfl) (by kernel_rfl) (fun _ _ _ h => h) (Or.inl ⟨by rfl, ?_⟩) (by assumption) ?_
  rotate_left
  · (intro wS hSw; (try dsimp only at hSw); go_simp; try with_reducible rfl)
  try simp only [Act.put, List.setIfInBounds_toArray]
  refine wpAnyH_take (i := 13) (oi := _) (v := ?_) rfl (by kernel_rfl) (by kernel_rfl) (by kernel_rfl) (fun _ _ _ h => h) (Or.inl ⟨by rfl, ?_⟩) (by assumption) ?_
  rotate_left
  · (intro wS hSw; (try dsimp only at hSw); go_simp; try with_reducible rfl)
  try simp only [Act.put]
  refine wpAnyH_ready (rs := [14]) (by kernel_rfl) (by simp) (AllReadyH.cons (o := _) rfl (fun K hK => ?b1y3x14) AllReadyH.nil)
  go_simp
  refine hK.out _ _ ?_ (fun hHeld => ?_)
  · ((try dsimp only); (first | (with_reducible exact HSK.out) | go_keep))
  clear hK K; try simp only [Act.put, List.setIfInBounds_toArray, List.set_cons_zero, List.set_cons_succ]
  refine wpAnyH_done (by kernel_rfl) ?_ _
  all_goals
    refine exit_world fun V hV => ?_
    have HEND : Hid (World1 V h Av dg wg mg q p mq mp (X.setFuse R C I) S (Y.setFuse R C I) T ∧ Touch (fr h Av) w V) := Lib.hid (by
      have h5 := HGO.out w3 ⟨gd, ga, gpa, gpn, gpc, gk, gr, decide (0 ≤ R), R, C, I⟩ (Y.setFuse R C I) HB3.out (HGF.out.fuse R C I) (.inr ⟨rfl, rfl, rfl, rfl⟩)
      have e : V = setG w3 mq ⟨gd, ga, gpa, gpn, gpc, gk, gr, decide (0 ≤ R), R, C, I⟩ := by rw [hV]; rfl
      rw [← e] at h5
      exact World1.end_ h5.1 (HTT.out.then_ h5.2) (((Below.refl _ w).alloc (Nat.le_refl _) _).alloc (by simp) _) (fun k hk => .inl hk) HT.out.avd)
    clear hV
    go_wp2
    go_end0
    exact ⟨rfl, HEND.out.1, HEND.out.2⟩
set_option maxRecDepth 100000 in
set_option maxHeartbeats 8000000 in
theorem do_offline (w : World) (h dg dc wg wc mg mc q p mq mp : Nat) (Av : Nat → Prop) (X Y : Wnd) (S T : Drv) (hT : World1 w h Av dg wg mg q p mq mp X S Y T) (hh : h ≤ w.heap.size) (hcap : Caps dc wc mc) (x : PAct) (L : ALay) (hk : x.kind = 2) :
    Calls Tryz.prog 23 #[bothV dg dc wg wc mg mc, .agg (actCells x L)] w fun e w' => e = .returned (.tuple #[]) ∧ World1 w' h Av dg wg mg q p mq mp { X with away := true } S { Y with away := true } T ∧ Touch (fr h Av) w w' := by
  obtain ⟨kind, place, at_, n, data, plan, R, C, I⟩ := x
  obtain ⟨da, dcc, pa, pc, fa, fn, fc⟩ := L
  simp only at hk
  subst hk
  unfold bothV actCells
  simp only
  obtain ⟨hc1, hc2, hc3⟩ := hcap
  have hr := hT.rows
  obtain ⟨r1, r2, r3, l1, l2, l3⟩ := hr
  have hmq0 : mq < w.heap.size := by obtain ⟨_, hg0, _⟩ := hT.gate hh; exact hg0.lt
  have hmqn : mq ≠ w.heap.size + 1 := by omega
  have hmqm : w.heap.size + 1 ≠ mq := by omega
  have HT := Lib.hid hT
  have HWB : Hid (∀ o1 o2, World1 ((w.alloc o1).alloc o2) h (fun k => Av k ∨ (w.heap.size ≤ k ∧ k < w.heap.size + 2)) dg wg mg q p mq mp X S Y T) := Lib.hid fun o1 o2 => by
    have := hT.boxed (w1 := (w.alloc o1).alloc o2) (((Below.refl _ w).alloc (Nat.le_refl _) _).alloc (by simp) _)
    rw [show ((w.alloc o1).alloc o2).heap.size = w.heap.size + 2 by simp] at this; exact this
  have HPK := Lib.hid pick_one
  clear hT
  go_enter Tryz.func23, Tryz.ntmps23
  go_wp2_with (first
    | (go_at_call 55; refine (HPK.out _ _).mono ?_; rintro e w' ⟨rfl, rfl⟩)
    | (go_at_call 58; go_must (refine (offline1 (HWB.out _ _) (by simp; omega) true).mono ?_); rintro e w2 ⟨rfl, h2, t2⟩; have HT2 := Lib.hid h2; have HTT := Lib.hid t2; clear h2 t2))
  have hsz2 : w.heap.size + 2 ≤ w2.heap.size := by have := HTT.out.size; simpa using this
  have HAC : Hid (Blk w2 (w.heap.size + 1) 59 #[.int .i64 2, .int .i64 place, .int .i64 at_, .int .i64 n, .slice da data.length dcc, .slice pa plan.length pc, .int .i64 R, .int .i64 C, .int .i64 I, .slice fa fn fc]) := Lib.hid ((fr_av HTT.out (k := w.heap.size + 1) (.inr (by omega)) (by simp)).trans (blk_last _ _ _ _ (by simp)))
  have a0 : w2.cell? ⟨w.heap.size + 1, 0, none⟩ = some (.int .i64 2) := HAC.out.cell 0
  obtain ⟨g, hg, hgo⟩ := HT2.out.gate (by omega)
  have HGO := Lib.hid hgo
  obtain ⟨gd, ga, gpa, gpn, gpc, gk, gr, gl, gR, gC, gI⟩ := g
  have HGI := Lib.hid hg
  obtain ⟨gof, c1, c2, c3, c4, c5, c6, c7, c8, c9, gf, hmq⟩ := hg
  simp only at c1 c2 c3 c4 c5 c6 c7 c8 c9
  have HGF := Lib.hid gof
  clear hgo gof r1 r2 r3
  refine wp_region_held_drew (S := (fun w' => w'.cell? ⟨w.heap.size + 1, 0, none⟩ = some (.int .i64 2))) (by kernel_rfl) ?_ (fun hHeld => ?_)
  · ((try dsimp only); (first | (with_reducible exact HSK.out) | go_keep))
  refine wpAnyH_take (i := 0) (oi := _) (v := ?_) rfl (by kernel_rfl) (by kernel_rfl) (by kernel_rfl) (fun _ _ _ h => h) (Or.inl ⟨by rfl, ?_⟩) (by assumption) ?_
  rotate_left
  · (intro wS hSw; (try dsimp only at hSw); go_simp; try with_reducible rfl)
  try simp only [Act.put, List.setIfInBounds_toArray]
  refine wpAnyH_take (i := 1) (oi := _) (v := ?_) rfl (by kernel_rfl) (by kernel_rfl) (by kernel_rfl) (fun _ _ _ h => h) (Or.inl ⟨by rfl, ?_⟩) (by assumption) ?_
  rotate_left
  · (intro wS hSw; (try dsimp only at hSw); go_simp; try with_reducible rfl)
  try simp only [Act.put]
  refine wpAnyH_take (i := 2) (oi := _) (v := ?_) rfl (by kernel_rfl) (by kernel_rfl) (by kernel_rfl) (fun _ _ _ h => h) (Or.inl ⟨by rfl, ?_⟩) (by assumption) ?_
  rotate_left
  · (intro wS hSw; (try dsimp only at hSw); go_simp; try with_reducible rfl)
  try simp only [Act.put]
  refine wpAnyH_take (i := 3) (oi := _) (v := ?_) rfl (by kernel_rfl) (by kernel_rfl) (by kernel_rfl) (fun _ _ _ h => h) (Or.inl ⟨by rfl, ?_⟩) (by assumption) ?_
  rotate_left
  · (intro wS hSw; (try dsimp only at hSw); go_simp; try with_reducible rfl)
  try simp only [Act.put]
  refine wpAnyH_take (i := 5) (oi := _) (v := ?_) rfl (by kernel_rfl) (by kernel_rfl) (by kernel_rfl) (fun _ _ _ h => h) (Or.inl ⟨by rfl, ?_⟩) (by assumption) ?_
  rotate_left
  · (intro wS hSw; (try dsimp only at hSw); go_simp; try with_reducible rfl)
  try simp only [Act.put]
  refine wpAnyH_take (i := 6) (oi := _) (v := ?_) rfl (by kernel_rfl) (by kernel_rfl) (by kernel_rfl) (fun _ _ _ h => h) (Or.inl ⟨by rfl, ?_⟩) (by assumption) ?_
  rotate_left
  · (intro wS hSw; (try dsimp only at hSw); go_simp; try with_reducible rfl)
  try simp only [Act.put]
  refine wpAnyH_take (i := 7) (oi := _) (v := ?_) rfl (by kernel_rfl) (by kernel_rfl) (by kernel_rfl) (fun _ _ _ h => h) (Or.inl ⟨by rfl, ?_⟩) (by assumption) ?_
  rotate_left
  · (intro wS hSw; (try dsimp only at hSw); go_simp; try with_reducible rfl)
  try simp only [Act.put]
  refine wpAnyH_ready (rs := [4]) (by kernel_rfl) (by simp) (AllReadyH.cons (o := _) rfl (fun K hK => ?b2y1x4) AllReadyH.nil)
  go_simp
  refine hK.out _ _ ?_ (fun hHeld => ?_)
  · ((try dsimp only); (first | (with_reducible exact HSK.out) | go_keep))
  clear hK K; try simp only [Act.put, List.setIfInBounds_toArray, List.set_cons_zero, List.set_cons_succ]
  refine wpAnyH_ready (rs := [8]) (by kernel_rfl) (by simp) (AllReadyH.cons (o := _) rfl (fun K hK => ?b2y2x8) AllReadyH.nil)
  go_simp; go_at_call 59; refine (goffline_any ⟨gd, ga, gpa, gpn, gpc, gk, gr, gl, gR, gC, gI⟩ true _).mono ?_; rintro e w3 ⟨he, hb3'⟩; simp only [gcells] at he; subst he; have hb3 : Below w2.heap.size w2 w3 := ⟨hb3'.os, hb3'.tape, hb3'.output, hb3'.size, hb3'.block⟩; have HB3 := Lib.hid hb3; have d1 := (hb3.cell (p := ⟨mq, 1, none⟩) hmq).trans HGI.out.c1; have d2 := (hb3.cell (p := ⟨mq, 2, none⟩) hmq).trans HGI.out.c2; have d3 := (hb3.cell (p := ⟨mq, 3, none⟩) hmq).trans HGI.out.c3; have d4 := (hb3.cell (p := ⟨mq, 4, none⟩) hmq).trans HGI.out.c4; have d5 := (hb3.cell (p := ⟨mq, 5, none⟩) hmq).trans HGI.out.c5; have d6 := (hb3.cell (p := ⟨mq, 6, none⟩) hmq).trans HGI.out.c6; have d7 := (hb3.cell (p := ⟨mq, 7, none⟩) hmq).trans HGI.out.c7; have d8 := (hb3.cell (p := ⟨mq, 8, none⟩) hmq).trans HGI.out.c8; have d9 := (hb3.cell (p := ⟨mq, 9, none⟩) hmq).trans HGI.out.c9; have df : ∀ i, w3.frozen? ⟨mq, i, none⟩ = false := (fun i => (hb3.frozen (p := ⟨mq, i, none⟩) hmq).trans (HGI.out.fz i)); have hmq3 : mq < w3.heap.size := Nat.lt_of_lt_of_le hmq hb3.size; have HSK : Hid (w3.cell? ⟨w.heap.size + 1, 0, none⟩ = some (.int .i64 2)) := Lib.hid ((hb3.cell (p := ⟨w.heap.size + 1, 0, none⟩) (by show w.heap.size + 1 < _; omega)).trans a0); clear hb3 hb3'
  refine hK.out _ _ ?_ (fun hHeld => ?_)
  · ((try dsimp only); (first | (with_reducible exact HSK.out) | go_keep))
  clear hK K; try simp only [Act.put, List.setIfInBounds_toArray, List.set_cons_zero, List.set_cons_succ]
  refine wpAnyH_take (i := 9) (oi := _) (v := ?_) rfl (by kernel_rfl) (by kernel_rfl) (by kernel_rfl) (fun _ _ _ h => h) (Or.inl ⟨by rfl, ?_⟩) (by assumption) ?_
  rotate_left
  · (intro wS hSw; (try dsimp only at hSw); go_simp; try with_reducible rfl)
  try simp only [Act.put, List.setIfInBounds_toArray]
  refine wpAnyH_take (i := 10) (oi := _) (v := ?_) rfl (by kernel_rfl) (by kernel_rfl) (by kernel_rfl) (fun _ _ _ h => h) (Or.inl ⟨by rfl, ?_⟩) (by assumption) ?_
  rotate_left
  · (intro wS hSw; (try dsimp only at hSw); go_simp; try with_reducible rfl)
  try simp only [Act.put]
  refine wpAnyH_ready (rs := [11]) (by kernel_rfl) (by simp) (AllReadyH.cons (o := _) rfl (fun K hK => ?b2y3x11) AllReadyH.nil)
  go_simp
  refine hK.out _ _ ?_ (fun hHeld => ?_)
  · ((try dsimp only); (first | (with_reducible exact HSK.out) | go_keep))
  clear hK K; try simp only [Act.put, List.setIfInBounds_toArray, List.set_cons_zero, List.set_cons_succ]
  refine wpAnyH_done (by kernel_rfl) ?_ _
  all_goals
    refine exit_world fun V hV => ?_
    have HEND : Hid (World1 V h Av dg wg mg q p mq mp { X with away := true } S { Y with away := true } T ∧ Touch (fr h Av) w V) := Lib.hid (by
      have h5 := HGO.out w3 ⟨gd, true, gpa, gpn, gpc, gk, gr, gl, gR, gC, gI⟩ { Y with away := true } HB3.out (HGF.out.offline true) (.inr ⟨rfl, rfl, rfl, rfl⟩)
      have e : V = setG w3 mq ⟨gd, true, gpa, gpn, gpc, gk, gr, gl, gR, gC, gI⟩ := by rw [hV]; rfl
      rw [← e] at h5
      exact World1.end_ h5.1 (HTT.out.then_ h5.2) (((Below.refl _ w).alloc (Nat.le_refl _) _).alloc (by simp) _) (fun k hk => .inl hk) HT.out.avd)
    clear hV
    go_wp2
    go_end0
    exact ⟨rfl, HEND.out.1, HEND.out.2⟩
set_option maxRecDepth 100000 in
set_option maxHeartbeats 8000000 in
theorem do_online (w : World) (h dg dc wg wc mg mc q p mq mp : Nat) (Av : Nat → Prop) (X Y : Wnd) (S T : Drv) (hT : World1 w h Av dg wg mg q p mq mp X S Y T) (hh : h ≤ w.heap.size) (hcap : Caps dc wc mc) (x : PAct) (L : ALay) (hk : x.kind = 3) :
    Calls Tryz.prog 23 #[bothV dg dc wg wc mg mc, .agg (actCells x L)] w fun e w' => e = .returned (.tuple #[]) ∧ World1 w' h Av dg wg mg q p mq mp { X with away := false } S { Y with away := false } T ∧ Touch (fr h Av) w w' := by
  obtain ⟨kind, place, at_, n, data, plan, R, C, I⟩ := x
  obtain ⟨da, dcc, pa, pc, fa, fn, fc⟩ := L
  simp only at hk
  subst hk
  unfold bothV actCells
  simp only
  obtain ⟨hc1, hc2, hc3⟩ := hcap
  have hr := hT.rows
  obtain ⟨r1, r2, r3, l1, l2, l3⟩ := hr
  have hmq0 : mq < w.heap.size := by obtain ⟨_, hg0, _⟩ := hT.gate hh; exact hg0.lt
  have hmqn : mq ≠ w.heap.size + 1 := by omega
  have hmqm : w.heap.size + 1 ≠ mq := by omega
  have HT := Lib.hid hT
  have HWB : Hid (∀ o1 o2, World1 ((w.alloc o1).alloc o2) h (fun k => Av k ∨ (w.heap.size ≤ k ∧ k < w.heap.size + 2)) dg wg mg q p mq mp X S Y T) := Lib.hid fun o1 o2 => by
    have := hT.boxed (w1 := (w.alloc o1).alloc o2) (((Below.refl _ w).alloc (Nat.le_refl _) _).alloc (by simp) _)
    rw [show ((w.alloc o1).alloc o2).heap.size = w.heap.size + 2 by simp] at this; exact this
  have HPK := Lib.hid pick_one
  clear hT
  go_enter Tryz.func23, Tryz.ntmps23
  go_wp2_with (first
    | (go_at_call 55; refine (HPK.out _ _).mono ?_; rintro e w' ⟨rfl, rfl⟩)
    | (go_at_call 58; go_must (refine (offline1 (HWB.out _ _) (by simp; omega) false).mono ?_); rintro e w2 ⟨rfl, h2, t2⟩; have HT2 := Lib.hid h2; have HTT := Lib.hid t2; clear h2 t2))
  have hsz2 : w.heap.size + 2 ≤ w2.heap.size := by have := HTT.out.size; simpa using this
  have HAC : Hid (Blk w2 (w.heap.size + 1) 59 #[.int .i64 3, .int .i64 place, .int .i64 at_, .int .i64 n, .slice da data.length dcc, .slice pa plan.length pc, .int .i64 R, .int .i64 C, .int .i64 I, .slice fa fn fc]) := Lib.hid ((fr_av HTT.out (k := w.heap.size + 1) (.inr (by omega)) (by simp)).trans (blk_last _ _ _ _ (by simp)))
  have a0 : w2.cell? ⟨w.heap.size + 1, 0, none⟩ = some (.int .i64 3) := HAC.out.cell 0
  obtain ⟨g, hg, hgo⟩ := HT2.out.gate (by omega)
  have HGO := Lib.hid hgo
  obtain ⟨gd, ga, gpa, gpn, gpc, gk, gr, gl, gR, gC, gI⟩ := g
  have HGI := Lib.hid hg
  obtain ⟨gof, c1, c2, c3, c4, c5, c6, c7, c8, c9, gf, hmq⟩ := hg
  simp only at c1 c2 c3 c4 c5 c6 c7 c8 c9
  have HGF := Lib.hid gof
  clear hgo gof r1 r2 r3
  refine wp_region_held_drew (S := (fun w' => w'.cell? ⟨w.heap.size + 1, 0, none⟩ = some (.int .i64 3))) (by kernel_rfl) ?_ (fun hHeld => ?_)
  · ((try dsimp only); (first | (with_reducible exact HSK.out) | go_keep))
  refine wpAnyH_take (i := 0) (oi := _) (v := ?_) rfl (by kernel_rfl) (by kernel_rfl) (by kernel_rfl) (fun _ _ _ h => h) (Or.inl ⟨by rfl, ?_⟩) (by assumption) ?_
  rotate_left
  · (intro wS hSw; (try dsimp only at hSw); go_simp; try with_reducible rfl)
  try simp only [Act.put, List.setIfInBounds_toArray]
  refine wpAnyH_take (i := 1) (oi := _) (v := ?_) rfl (by kernel_rfl) (by kernel_rfl) (by kernel_rfl) (fun _ _ _ h => h) (Or.inl ⟨by rfl, ?_⟩) (by assumption) ?_
  rotate_left
  · (intro wS hSw; (try dsimp only at hSw); go_simp; try with_reducible rfl)
  try simp only [Act.put]
  refine wpAnyH_take (i := 2) (oi := _) (v := ?_) rfl (by kernel_rfl) (by kernel_rfl) (by kernel_rfl) (fun _ _ _ h => h) (Or.inl ⟨by rfl, ?_⟩) (by assumption) ?_
  rotate_left
  · (intro wS hSw; (try dsimp only at hSw); go_simp; try with_reducible rfl)
  try simp only [Act.put]
  refine wpAnyH_take (i := 3) (oi := _) (v := ?_) rfl (by kernel_rfl) (by kernel_rfl) (by kernel_rfl) (fun _ _ _ h => h) (Or.inl ⟨by rfl, ?_⟩) (by assumption) ?_
  rotate_left
  · (intro wS hSw; (try dsimp only at hSw); go_simp; try with_reducible rfl)
  try simp only [Act.put]
  refine wpAnyH_take (i := 5) (oi := _) (v := ?_) rfl (by kernel_rfl) (by kernel_rfl) (by kernel_rfl) (fun _ _ _ h => h) (Or.inl ⟨by rfl, ?_⟩) (by assumption) ?_
  rotate_left
  · (intro wS hSw; (try dsimp only at hSw); go_simp; try with_reducible rfl)
  try simp only [Act.put]
  refine wpAnyH_take (i := 6) (oi := _) (v := ?_) rfl (by kernel_rfl) (by kernel_rfl) (by kernel_rfl) (fun _ _ _ h => h) (Or.inl ⟨by rfl, ?_⟩) (by assumption) ?_
  rotate_left
  · (intro wS hSw; (try dsimp only at hSw); go_simp; try with_reducible rfl)
  try simp only [Act.put]
  refine wpAnyH_take (i := 7) (oi := _) (v := ?_) rfl (by kernel_rfl) (by kernel_rfl) (by kernel_rfl) (fun _ _ _ h => h) (Or.inl ⟨by rfl, ?_⟩) (by assumption) ?_
  rotate_left
  · (intro wS hSw; (try dsimp only at hSw); go_simp; try with_reducible rfl)
  try simp only [Act.put]
  refine wpAnyH_ready (rs := [4]) (by kernel_rfl) (by simp) (AllReadyH.cons (o := _) rfl (fun K hK => ?b3y1x4) AllReadyH.nil)
  go_simp
  refine hK.out _ _ ?_ (fun hHeld => ?_)
  · ((try dsimp only); (first | (with_reducible exact HSK.out) | go_keep))
  clear hK K; try simp only [Act.put, List.setIfInBounds_toArray, List.set_cons_zero, List.set_cons_succ]
  refine wpAnyH_ready (rs := [8]) (by kernel_rfl) (by simp) (AllReadyH.cons (o := _) rfl (fun K hK => ?b3y2x8) AllReadyH.nil)
  go_simp; go_at_call 59; refine (goffline_any ⟨gd, ga, gpa, gpn, gpc, gk, gr, gl, gR, gC, gI⟩ false _).mono ?_; rintro e w3 ⟨he, hb3'⟩; simp only [gcells] at he; subst he; have hb3 : Below w2.heap.size w2 w3 := ⟨hb3'.os, hb3'.tape, hb3'.output, hb3'.size, hb3'.block⟩; have HB3 := Lib.hid hb3; have d1 := (hb3.cell (p := ⟨mq, 1, none⟩) hmq).trans HGI.out.c1; have d2 := (hb3.cell (p := ⟨mq, 2, none⟩) hmq).trans HGI.out.c2; have d3 := (hb3.cell (p := ⟨mq, 3, none⟩) hmq).trans HGI.out.c3; have d4 := (hb3.cell (p := ⟨mq, 4, none⟩) hmq).trans HGI.out.c4; have d5 := (hb3.cell (p := ⟨mq, 5, none⟩) hmq).trans HGI.out.c5; have d6 := (hb3.cell (p := ⟨mq, 6, none⟩) hmq).trans HGI.out.c6; have d7 := (hb3.cell (p := ⟨mq, 7, none⟩) hmq).trans HGI.out.c7; have d8 := (hb3.cell (p := ⟨mq, 8, none⟩) hmq).trans HGI.out.c8; have d9 := (hb3.cell (p := ⟨mq, 9, none⟩) hmq).trans HGI.out.c9; have df : ∀ i, w3.frozen? ⟨mq, i, none⟩ = false := (fun i => (hb3.frozen (p := ⟨mq, i, none⟩) hmq).trans (HGI.out.fz i)); have hmq3 : mq < w3.heap.size := Nat.lt_of_lt_of_le hmq hb3.size; have HSK : Hid (w3.cell? ⟨w.heap.size + 1, 0, none⟩ = some (.int .i64 3)) := Lib.hid ((hb3.cell (p := ⟨w.heap.size + 1, 0, none⟩) (by show w.heap.size + 1 < _; omega)).trans a0); clear hb3 hb3'
  refine hK.out _ _ ?_ (fun hHeld => ?_)
  · ((try dsimp only); (first | (with_reducible exact HSK.out) | go_keep))
  clear hK K; try simp only [Act.put, List.setIfInBounds_toArray, List.set_cons_zero, List.set_cons_succ]
  refine wpAnyH_take (i := 9) (oi := _) (v := ?_) rfl (by kernel_rfl) (by kernel_rfl) (by kernel_rfl) (fun _ _ _ h => h) (Or.inl ⟨by rfl, ?_⟩) (by assumption) ?_
  rotate_left
  · (intro wS hSw; (try dsimp only at hSw); go_simp; try with_reducible rfl)
  try simp only [Act.put, List.setIfInBounds_toArray]
  refine wpAnyH_take (i := 10) (oi := _) (v := ?_) rfl (by kernel_rfl) (by kernel_rfl) (by kernel_rfl) (fun _ _ _ h => h) (Or.inl ⟨by rfl, ?_⟩) (by assumption) ?_
  rotate_left
  · (intro wS hSw; (try dsimp only at hSw); go_simp; try with_reducible rfl)
  try simp only [Act.put]
  refine wpAnyH_ready (rs := [11]) (by kernel_rfl) (by simp) (AllReadyH.cons (o := _) rfl (fun K hK => ?b3y3x11) AllReadyH.nil)
  go_simp
  refine hK.out _ _ ?_ (fun hHeld => ?_)
  · ((try dsimp only); (first | (with_reducible exact HSK.out) | go_keep))
  clear hK K; try simp only [Act.put, List.setIfInBounds_toArray, List.set_cons_zero, List.set_cons_succ]
  refine wpAnyH_done (by kernel_rfl) ?_ _
  all_goals
    refine exit_world fun V hV => ?_
    have HEND : Hid (World1 V h Av dg wg mg q p mq mp { X with away := false } S { Y with away := false } T ∧ Touch (fr h Av) w V) := Lib.hid (by
      have h5 := HGO.out w3 ⟨gd, false, gpa, gpn, gpc, gk, gr, gl, gR, gC, gI⟩ { Y with away := false } HB3.out (HGF.out.offline false) (.inr ⟨rfl, rfl, rfl, rfl⟩)
      have e : V = setG w3 mq ⟨gd, false, gpa, gpn, gpc, gk, gr, gl, gR, gC, gI⟩ := by rw [hV]; rfl
      rw [← e] at h5
      exact World1.end_ h5.1 (HTT.out.then_ h5.2) (((Below.refl _ w).alloc (Nat.le_refl _) _).alloc (by simp) _) (fun k hk => .inl hk) HT.out.avd)
    clear hV
    go_wp2
    go_end0
    exact ⟨rfl, HEND.out.1, HEND.out.2⟩
end Go.Proofs.YtdmcjomcbhdcbaaGreat
namespace Go.Proofs.YtdmcjomcbhdcbaaGreat
open Go.RowKit Go.Maps

theorem Reads.touch0 {w w' : World} {B size n : Nat} {A : Option Addr} {xs : List Value} {F : Nat → Prop} (h : Reads w B size A n xs) (ht : Touch F w w') (hB : B ≤ w.heap.size) (hA : ∀ ad, A = some ad → 0 < n → ¬F ad.block) : Reads w' B size A n xs := by
  refine ⟨h.1, fun hp => ?_⟩
  exact (h.touch ht hB fun ad e => hA ad e hp).2 hp
theorem arm1n {w : World} {h dg wg mg q p mq mp : Nat} {Av : Nat → Prop} {X Y : Wnd} {S T : Drv} (hT : World1 w h Av dg wg mg q p mq mp X S Y T) (hh : h ≤ w.heap.size) (A : Option Addr) (n c : Nat) (l : List (Int × Int)) (hn : n = l.length) (hr : Reads w w.heap.size 2 A n (planCells l)) (hA : ∀ ad, A = some ad → ad.block < h ∨ Av ad.block) (hb : n * 16 ≤ 140737488351232) :
    Calls Tryz.prog 56 #[.pointer (some ⟨q, 0, none⟩), .slice A n c] w fun e w' => e = .returned (.tuple #[]) ∧ World1 w' h Av dg wg mg q p mq mp (X.arm l) S Y T ∧ Touch (fr h Av) w w' := by
  subst hn; exact arm1 hT hh A c l hr hA hb
theorem own_ad {w : World} {base n c : Nat} {e : TypeId} {s : Nat} {a : Option Addr} {xs : List Value} (h : w.ownsRow base e s (.slice a n c) n xs) {ad : Addr} (hA : a = some ad) : base ≤ ad.block ∧ ad.block < w.heap.size := by
  subst hA
  rcases h.2 with ⟨e, _⟩ | ⟨g, cap, cur, e, _⟩
  · cases e
  · injection e with e _ _
    injection e with e
    subst e
    exact h.lt g rfl

set_option maxRecDepth 100000 in
set_option maxHeartbeats 8000000 in
theorem do_arm (w : World) (h dg dc wg wc mg mc q p mq mp : Nat) (Av : Nat → Prop) (X Y : Wnd) (S T : Drv) (hT : World1 w h Av dg wg mg q p mq mp X S Y T) (hh : h ≤ w.heap.size) (hcap : Caps dc wc mc) (x : PAct) (L : ALay) (hk : x.kind = 1) (hrp : Reads w w.heap.size 2 L.pa x.plan.length (planCells x.plan)) (hpA : ∀ ad, L.pa = some ad → 0 < x.plan.length → ad.block < h ∨ Av ad.block) (hpn : x.plan.length * 16 ≤ 140737488351232) :
    Calls Tryz.prog 23 #[bothV dg dc wg wc mg mc, .agg (actCells x L)] w fun e w' => e = .returned (.tuple #[]) ∧ World1 w' h Av dg wg mg q p mq mp (X.arm x.plan) S (Y.arm x.plan) T ∧ Touch (fr h Av) w w' := by
  obtain ⟨kind, place, at_, n, data, plan, R, C, I⟩ := x
  obtain ⟨da, dcc, pa, pc, fa, fn, fc⟩ := L
  simp only at hk hrp hpA hpn
  subst hk
  unfold bothV actCells
  simp only
  obtain ⟨hc1, hc2, hc3⟩ := hcap
  have hr := hT.rows
  obtain ⟨r1, r2, r3, l1, l2, l3⟩ := hr
  have hmq0 : mq < w.heap.size := by obtain ⟨_, hg0, _⟩ := hT.gate hh; exact hg0.lt
  have hmqn : mq ≠ w.heap.size + 1 := by omega
  have hmqm : w.heap.size + 1 ≠ mq := by omega
  have HT := Lib.hid hT
  obtain ⟨iF, hiF, hz0, hz1, hz2⟩ := info_parts faultInfo
  obtain ⟨np, hnp⟩ : ∃ np, np = plan.length := ⟨_, rfl⟩
  have HNP := Lib.hid hnp
  rw [← hnp] at hrp hpn hpA
  rw [← hnp]
  have HRP : Hid (∀ V, Touch (fr h Av) w V → Reads V V.heap.size 2 pa np (planCells plan)) := Lib.hid fun V hV => (hrp.touch0 hV (Nat.le_refl _) (fun ad e h0 hf => by
    rcases hpA ad e h0 with h1 | h1
    · have := hf.1; omega
    · exact hf.2 h1)).more hV.size
  have HBX : Hid (∀ w1, Below w.heap.size w w1 → World1 w1 h (fun k => Av k ∨ (w.heap.size ≤ k ∧ k < w1.heap.size)) dg wg mg q p mq mp X S Y T) := Lib.hid fun w1 hb => hT.boxed hb
  have HONE : Hid (∀ u ∈ planCells plan, u.oneCell' = true) := Lib.hid (by
    intro u hu
    unfold planCells at hu
    simp only [List.mem_flatMap] at hu
    obtain ⟨f, _, hf⟩ := hu
    simp at hf
    rcases hf with rfl | rfl <;> rfl)
  have HM63 : Hid (0 + np ≤ maxLen) := Lib.hid (by simp only [maxLen]; omega)
  have HM40 : Hid ((0 + np) * 16 ≤ 140737488355328) := Lib.hid (by omega)
  have HB2 : Hid (∀ o1 o2, Below w.heap.size w ((w.alloc o1).alloc o2)) := Lib.hid fun o1 o2 => ((Below.refl _ w).alloc (Nat.le_refl _) _).alloc (by simp) _
  have HPK := Lib.hid pick_one
  clear hT hrp hpA hnp
  go_enter Tryz.func23, Tryz.ntmps23
  go_wp2_with (first
    | (go_at_call 55; refine (HPK.out _ _).mono ?_; rintro e w' ⟨rfl, rfl⟩)
    | (at_builtin; go_must (refine wpList_append_any _ (by rfl) (.const (.slice none 0 0)) (.tmp 64) 23 (by rfl) w.heap.size 181 iF _ 2 16 Tryz.underlying23 hiF hz0 hz1 hz2 rfl (by omega) (.slice none 0 0) 0 [] (by rfl) (World.ownsRow_nil _ _ _ _) _ pa np pc (planCells plan) (by rfl) (HRP.out _ (Touch.of_below (HB2.out _ _))) HONE.out HM63.out HM40.out (by simp; omega) ?_); intro v1 w1 hown1 hg1 hat1; obtain ⟨a1, c1, rfl, _⟩ := own_shape hown1; rw [Nat.zero_add, List.nil_append] at hown1; go_must (have HO1 := Lib.hid hown1; have hb1 : Below (w.heap.size + 2) ((w.alloc (.cells #[.slice (some ⟨dg, 0, none⟩) 1 dc, .slice (some ⟨wg, 0, none⟩) 1 wc, .slice (some ⟨mg, 0, none⟩) 1 mc] 36)).alloc (.cells #[.int .i64 1, .int .i64 place, .int .i64 at_, .int .i64 n, .slice da data.length dcc, .slice pa np pc, .int .i64 R, .int .i64 C, .int .i64 I, .slice fa fn fc] 59)) w1 := (Below.refl _ _).grown hg1 (by simp) (fun k hk => (by simp [Value.ownBlock] at hk)); have HB1 := Lib.hid hb1; clear hown1 hg1 hat1 hb1))
    | (go_at_call 56; go_must (have hbw1 : Below w.heap.size w w1 := (HB2.out _ _).trans (HB1.out.mono (by omega)); have HBW1 := Lib.hid hbw1; refine (arm1n (HBX.out w1 hbw1) (by have := hbw1.size; omega) a1 np c1 plan HNP.out (Reads.of_own HO1.out) (fun ad e => .inr (.inr (own_ad HO1.out e))) hpn).mono ?_); rintro e w2 ⟨rfl, h2, t2⟩; have HT2 := Lib.hid h2; have HTT := Lib.hid t2; clear h2 t2 hbw1))
  have hs1 : w.heap.size + 2 ≤ w1.heap.size := by have := HB1.out.size; simpa using this
  have hsz2 : w1.heap.size ≤ w2.heap.size := HTT.out.size
  have HAC : Hid (Blk w2 (w.heap.size + 1) 59 #[.int .i64 1, .int .i64 place, .int .i64 at_, .int .i64 n, .slice da data.length dcc, .slice pa np pc, .int .i64 R, .int .i64 C, .int .i64 I, .slice fa fn fc]) := Lib.hid ((fr_av HTT.out (k := w.heap.size + 1) (.inr (by omega)) (by omega)).trans ((HB1.out.block (w.heap.size + 1) (by omega)).trans (blk_last _ _ _ _ (by simp))))
  have a5 : w2.cell? ⟨w.heap.size + 1, 5, none⟩ = some (.slice pa np pc) := HAC.out.cell 5
  obtain ⟨g, hg, hgo⟩ := HT2.out.gate (by omega)
  have HGO := Lib.hid hgo
  obtain ⟨gd, ga, gpa, gpn, gpc, gk, gr, gl, gR, gC, gI⟩ := g
  have HGI := Lib.hid hg
  obtain ⟨gof, c1', c2, c3, c4, c5, c6, c7, c8, c9, gf, hmq⟩ := hg
  simp only at c1' c2 c3 c4 c5 c6 c7 c8 c9
  have HGF := Lib.hid gof
  have hT2 : Touch (fr h Av) w w2 := (Touch.of_below HBW1.out).then_ (fr_mono HTT.out fun k hk => .inl hk)
  have HR2 : Hid (∀ V, Below w2.heap.size w2 V → Reads V w2.heap.size 2 pa np (planCells plan)) := Lib.hid fun V hV => (HRP.out w2 hT2).below hV
  clear hgo gof r1 r2 r3 hT2
  refine wp_region_held_drew (S := (fun w' => w'.cell? ⟨w.heap.size + 1, 5, none⟩ = some (.slice pa np pc))) (by kernel_rfl) ?_ (fun hHeld => ?_)
  · ((try dsimp only); (first | (with_reducible exact HSK.out) | go_keep))
  refine wpAnyH_take (i := 0) (oi := _) (v := ?_) rfl (by kernel_rfl) (by kernel_rfl) (by kernel_rfl) (fun _ _ _ h => h) (Or.inl ⟨by rfl, ?_⟩) (by assumption) ?_
  rotate_left
  · (intro wS hSw; (try dsimp only at hSw); go_simp; try with_reducible rfl)
  try simp only [Act.put, List.setIfInBounds_toArray]
  refine wpAnyH_take (i := 1) (oi := _) (v := ?_) rfl (by kernel_rfl) (by kernel_rfl) (by kernel_rfl) (fun _ _ _ h => h) (Or.inl ⟨by rfl, ?_⟩) (by assumption) ?_
  rotate_left
  · (intro wS hSw; (try dsimp only at hSw); go_simp; try with_reducible rfl)
  try simp only [Act.put]
  refine wpAnyH_take (i := 2) (oi := _) (v := ?_) rfl (by kernel_rfl) (by kernel_rfl) (by kernel_rfl) (fun _ _ _ h => h) (Or.inl ⟨by rfl, ?_⟩) (by assumption) ?_
  rotate_left
  · (intro wS hSw; (try dsimp only at hSw); go_simp; try with_reducible rfl)
  try simp only [Act.put]
  refine wpAnyH_take (i := 3) (oi := _) (v := ?_) rfl (by kernel_rfl) (by kernel_rfl) (by kernel_rfl) (fun _ _ _ h => h) (Or.inl ⟨by rfl, ?_⟩) (by assumption) ?_
  rotate_left
  · (intro wS hSw; (try dsimp only at hSw); go_simp; try with_reducible rfl)
  try simp only [Act.put]
  refine wpAnyH_take (i := 5) (oi := _) (v := ?_) rfl (by kernel_rfl) (by kernel_rfl) (by kernel_rfl) (fun _ _ _ h => h) (Or.inl ⟨by rfl, ?_⟩) (by assumption) ?_
  rotate_left
  · (intro wS hSw; (try dsimp only at hSw); go_simp; try with_reducible rfl)
  try simp only [Act.put]
  refine wpAnyH_take (i := 6) (oi := _) (v := ?_) rfl (by kernel_rfl) (by kernel_rfl) (by kernel_rfl) (fun _ _ _ h => h) (Or.inl ⟨by rfl, ?_⟩) (by assumption) ?_
  rotate_left
  · (intro wS hSw; (try dsimp only at hSw); go_simp; try with_reducible rfl)
  try simp only [Act.put]
  refine wpAnyH_ready (rs := [4]) (by kernel_rfl) (by simp) (AllReadyH.cons (o := _) rfl (fun K hK => ?b1y1x4) AllReadyH.nil)
  go_simp
  refine hK.out _ _ ?_ (fun hHeld => ?_)
  · ((try dsimp only); (first | (with_reducible exact HSK.out) | go_keep))
  clear hK K; try simp only [Act.put, List.setIfInBounds_toArray, List.set_cons_zero, List.set_cons_succ]
  refine wpAnyH_ready (rs := [7]) (by kernel_rfl) (by simp) (AllReadyH.cons (o := _) rfl (fun K hK => ?b1y2x7) AllReadyH.nil)
  go_simp; go_at_call 57; refine (garm_any ⟨gd, ga, gpa, gpn, gpc, gk, gr, gl, gR, gC, gI⟩ pa np pc plan _ w2.heap.size (HR2.out _ (below_drew1 (Below.refl _ _))) hpn (Nat.le_refl _)).mono ?_; rintro e w3 ⟨pa', pc', he, hrow3, hb3'⟩; simp only [gcells] at he; subst he; have hb3 : Below w2.heap.size w2 w3 := ⟨hb3'.os, hb3'.tape, hb3'.output, hb3'.size, hb3'.block⟩; have HB3 := Lib.hid hb3; have HROW3 : Hid (w3.ownsRow w2.heap.size 181 2 (.slice pa' np pc') np (planCells plan)) := Lib.hid hrow3; have d1 := (hb3.cell (p := ⟨mq, 1, none⟩) hmq).trans HGI.out.c1; have d2 := (hb3.cell (p := ⟨mq, 2, none⟩) hmq).trans HGI.out.c2; have d3 := (hb3.cell (p := ⟨mq, 3, none⟩) hmq).trans HGI.out.c3; have d4 := (hb3.cell (p := ⟨mq, 4, none⟩) hmq).trans HGI.out.c4; have d5 := (hb3.cell (p := ⟨mq, 5, none⟩) hmq).trans HGI.out.c5; have d6 := (hb3.cell (p := ⟨mq, 6, none⟩) hmq).trans HGI.out.c6; have d7 := (hb3.cell (p := ⟨mq, 7, none⟩) hmq).trans HGI.out.c7; have d8 := (hb3.cell (p := ⟨mq, 8, none⟩) hmq).trans HGI.out.c8; have d9 := (hb3.cell (p := ⟨mq, 9, none⟩) hmq).trans HGI.out.c9; have df : ∀ i, w3.frozen? ⟨mq, i, none⟩ = false := (fun i => (hb3.frozen (p := ⟨mq, i, none⟩) hmq).trans (HGI.out.fz i)); have hmq3 : mq < w3.heap.size := Nat.lt_of_lt_of_le hmq hb3.size; have HSK : Hid (w3.cell? ⟨w.heap.size + 1, 5, none⟩ = some (.slice pa np pc)) := Lib.hid ((hb3.cell (p := ⟨w.heap.size + 1, 5, none⟩) (by show w.heap.size + 1 < _; omega)).trans a5); clear hb3 hb3' hrow3
  refine hK.out _ _ ?_ (fun hHeld => ?_)
  · ((try dsimp only); (first | (with_reducible exact HSK.out) | go_keep))
  clear hK K; try simp only [Act.put, List.setIfInBounds_toArray, List.set_cons_zero, List.set_cons_succ]
  refine wpAnyH_take (i := 8) (oi := _) (v := ?_) rfl (by kernel_rfl) (by kernel_rfl) (by kernel_rfl) (fun _ _ _ h => h) (Or.inl ⟨by rfl, ?_⟩) (by assumption) ?_
  rotate_left
  · (intro wS hSw; (try dsimp only at hSw); go_simp; try with_reducible rfl)
  try simp only [Act.put, List.setIfInBounds_toArray]
  refine wpAnyH_take (i := 9) (oi := _) (v := ?_) rfl (by kernel_rfl) (by kernel_rfl) (by kernel_rfl) (fun _ _ _ h => h) (Or.inl ⟨by rfl, ?_⟩) (by assumption) ?_
  rotate_left
  · (intro wS hSw; (try dsimp only at hSw); go_simp; try with_reducible rfl)
  try simp only [Act.put]
  refine wpAnyH_ready (rs := [10]) (by kernel_rfl) (by simp) (AllReadyH.cons (o := _) rfl (fun K hK => ?b1y3x10) AllReadyH.nil)
  go_simp
  refine hK.out _ _ ?_ (fun hHeld => ?_)
  · ((try dsimp only); (first | (with_reducible exact HSK.out) | go_keep))
  clear hK K; try simp only [Act.put, List.setIfInBounds_toArray, List.set_cons_zero, List.set_cons_succ]
  refine wpAnyH_done (by kernel_rfl) ?_ _
  all_goals
    refine exit_world fun V hV => ?_
    have HEND : Hid (World1 V h Av dg wg mg q p mq mp (X.arm plan) S (Y.arm plan) T ∧ Touch (fr h Av) w V) := Lib.hid (by
      have hof := HGF.out.arm plan pa' pc'
      rw [← HNP.out] at hof
      have h5 := HGO.out w3 ⟨gd, ga, pa', np, pc', 0, gr, gl, gR, gC, gI⟩ (Y.arm plan) HB3.out hof (.inl HROW3.out)
      have e : V = setG w3 mq ⟨gd, ga, pa', np, pc', 0, gr, gl, gR, gC, gI⟩ := by rw [hV]; rfl
      rw [← e] at h5
      exact World1.end_ h5.1 (HTT.out.then_ h5.2) HBW1.out (fun k hk => .inl hk) HT.out.avd)
    clear hV
    go_wp2
    go_end0
    exact ⟨rfl, HEND.out.1, HEND.out.2⟩
end Go.Proofs.YtdmcjomcbhdcbaaGreat
namespace Go.Proofs.YtdmcjomcbhdcbaaGreat
open Go.RowKit Go.Maps

theorem wnew_no (w : World) : Calls Tryz.prog 31 #[.pointer none] w fun e w' => e = .returned (.pointer none) ∧ w = w' := by
  go_enter Tryz.func31, Tryz.ntmps31
  go_wp2
  go_ret
  exact ⟨rfl, rfl⟩
theorem dload_any (r : Int) (fs : List File) (vals : List Value) (A : Option Addr) (c : Nat) (w : World) (hin : FilesIn w A fs vals) (hsp : ∀ ad, A = some ad → 0 < fs.length → ad.spot = none) (hfs : fs.length ≤ 1099511627776) (htot : Drv.total fs ≤ 140737488351232) (hnl : ∀ f ∈ fs, f.1.length ≤ 1099511627776) (n : Nat) (hn : n = fs.length) :
    Calls Tryz.prog 36 #[.int .i64 r, .slice A n c] w fun e w' => (loadOk r fs = true → ∃ p, e = .returned (.pointer (some ⟨p, 0, none⟩)) ∧ Dr w' p ((Drv.new r.toNat).loadK fs) (fun k => w.heap.size ≤ k ∧ k < w'.heap.size)) ∧ (loadOk r fs = false → e = .returned (.pointer none)) ∧ Below w.heap.size w w' := by
  subst hn
  by_cases hr : 0 ≤ r ∧ r ≤ 1073741824
  · obtain ⟨hr0, hr1⟩ := hr
    have hlo : loadOk r fs = (Drv.new r.toNat).loads fs := by unfold loadOk; rw [decide_eq_true ⟨hr0, hr1⟩]; rfl
    rw [hlo]
    have h := load_any r.toNat (by omega) fs vals A c w hin hsp hfs htot hnl
    rw [show ((r.toNat : Nat) : Int) = r by omega] at h
    exact h
  · have hno : loadOk r fs = false := by unfold loadOk; rw [decide_eq_false hr]; rfl
    rw [hno]
    have HN := Lib.hid (new_bad r w (by omega))
    clear hin hsp hfs htot hnl hno hr
    go_enter Tryz.func36, Tryz.ntmps36
    go_wp2_with (go_at_call 32; refine HN.out.mono ?_; rintro e w' ⟨rfl, rfl⟩)
    go_ret
    exact ⟨fun h => (by cases h), fun _ => rfl, Below.refl _ _⟩

/-- A place of a world. -/
structure PPlace where
  there : Bool
  room : Int
  files : List File
  plan : List (Int × Int)
  off : Bool
  fused : Bool
  round : Int
  call : Int
  inside : Int
structure PlLay where
  fa : Option Addr
  fc : Nat
  pa : Option Addr
  pc : Nat
def placeCells (x : PPlace) (L : PlLay) : List Value := [.bool x.there, .int .i64 x.room, .slice L.fa x.files.length L.fc, .slice L.pa x.plan.length L.pc, .bool x.off, .bool x.fused, .int .i64 x.round, .int .i64 x.call, .int .i64 x.inside]
def PPlace.ok (x : PPlace) : Bool := x.there && loadOk x.room x.files
def PPlace.wnd (x : PPlace) : Wnd :=
  if x.fused = true then ({ Wnd.new.arm x.plan with away := x.off } : Wnd).setFuse x.round x.call x.inside else { Wnd.new.arm x.plan with away := x.off }
def PPlace.drv (x : PPlace) : Drv := (Drv.new x.room.toNat).loadK x.files
/-- A place's slices, as they are handed in. -/
structure PlaceIn (w : World) (x : PPlace) (L : PlLay) : Prop where
  files : ∃ vals, FilesIn w L.fa x.files vals
  spot : ∀ ad, L.fa = some ad → 0 < x.files.length → ad.spot = none
  plan : Reads w w.heap.size 2 L.pa x.plan.length (planCells x.plan)
  nf : x.files.length ≤ 1099511627776
  tot : Drv.total x.files ≤ 140737488351232
  nl : ∀ f ∈ x.files, f.1.length ≤ 1099511627776
  np : x.plan.length * 16 ≤ 140737488351232
  pl : ∀ ad, L.pa = some ad → 0 < x.plan.length → ad.block < w.heap.size
  npc : x.plan.length ≤ L.pc

theorem pdiskInfo : (Tryz.prog.info? 84).map (fun i => (i.zero, i.size, i.bytes)) = some (some (.pointer none), 1, 8) := by kernel_rfl
theorem pwoundInfo : (Tryz.prog.info? 40).map (fun i => (i.zero, i.size, i.bytes)) = some (some (.pointer none), 1, 8) := by kernel_rfl
theorem idiskInfo : (Tryz.prog.info? 91).map (fun i => (i.zero, i.size, i.bytes)) = some (some .nilIface, 1, 16) := by kernel_rfl
/-- The world's value, as it is made. -/
structure BothIn (W : World) (B0 B1 : Nat) (d u m : Value) : Prop where
  r : Blk W B0 36 #[.slice none 0 0, .slice none 0 0, .slice none 0 0]
  b : Blk W B1 36 #[d, u, m]
  ne : B0 ≠ B1
theorem BothIn.grown {W w1 : World} {B0 B1 : Nat} {d u m : Value} {o : Obj} (h : BothIn W B0 B1 d u m) (hg : (W.alloc o).grownBy w1 (Value.slice none 0 0).ownBlock) : BothIn w1 B0 B1 d u m :=
  ⟨(h.r.alloc o).grown hg (by simp [Value.ownBlock]), (h.b.alloc o).grown hg (by simp [Value.ownBlock]), h.ne⟩
theorem BothIn.setM {W : World} {B0 B1 : Nat} {d u m : Value} (h : BothIn W B0 B1 d u m) (v : Value) : BothIn (W.setCell ⟨B1, 2, none⟩ v) B0 B1 d u v :=
  ⟨h.r.far (by show B0 ≠ B1; exact h.ne) _, h.b.set_ 2 v, h.ne⟩
theorem BothIn.setU {W : World} {B0 B1 : Nat} {d u m : Value} (h : BothIn W B0 B1 d u m) (v : Value) : BothIn (W.setCell ⟨B1, 1, none⟩ v) B0 B1 d v m :=
  ⟨h.r.far (by show B0 ≠ B1; exact h.ne) _, h.b.set_ 1 v, h.ne⟩
theorem BothIn.setD {W : World} {B0 B1 : Nat} {d u m : Value} (h : BothIn W B0 B1 d u m) (v : Value) : BothIn (W.setCell ⟨B1, 0, none⟩ v) B0 B1 v u m :=
  ⟨h.r.far (by show B0 ≠ B1; exact h.ne) _, h.b.set_ 0 v, h.ne⟩
theorem cell3 (a b c : Value) : (#[a, b, c] : Array Value)[0]? = some a ∧ (#[a, b, c] : Array Value)[1]? = some b ∧ (#[a, b, c] : Array Value)[2]? = some c := ⟨rfl, rfl, rfl⟩
theorem BothIn.fin3 {W : World} {B0 B1 : Nat} {d u m : Value} (h : BothIn W B0 B1 d u m) (D U M : Value) {base size n : Nat} {e : TypeId} {v : Value} {xs : List Value} (hr : W.ownsRow base e size v n xs) (hne : e ≠ 36) :
    (((W.setCell ⟨B0, 0, none⟩ D).setCell ⟨B0, 1, none⟩ U).setCell ⟨B0, 2, none⟩ M).ownsRow base e size v n xs :=
  row_set (row_set (row_set hr h.r hne 0 D) (h.r.set_ 0 D) hne 1 U) ((h.r.set_ 0 D).set_ 1 U) hne 2 M
theorem fin3_touch (W : World) (B0 : Nat) (D U M : Value) : Touch (· = B0) W (((W.setCell ⟨B0, 0, none⟩ D).setCell ⟨B0, 1, none⟩ U).setCell ⟨B0, 2, none⟩ M) :=
  by
  iterate 3 (refine Touch.then_ ?_ (Touch.setCell _ _ _ rfl))
  exact Touch.refl _ _
/-- A row of one, just made. -/
theorem own_one {w : World} {base c : Nat} {e : TypeId} {a : Option Addr} {x : Value} (h : w.ownsRow base e 1 (.slice a 1 c) 1 [x]) : ∃ g, a = some ⟨g, 0, none⟩ ∧ base ≤ g ∧ g < w.heap.size ∧ w.cell? ⟨g, 0, none⟩ = some x ∧ 1 ≤ c := by
  obtain ⟨g, cap, hv, hb, hl⟩ := h.form (by omega)
  injection hv with hv _ hc
  subst hv
  refine ⟨g, rfl, hb, hl, ?_, ?_⟩
  · have := h.cells (g := g) rfl 0 x rfl
    simpa [add_plain] using this
  · obtain ⟨a', c', e', hle⟩ := own_shape h
    injection e' with _ _ e3
    omega

set_option maxRecDepth 100000 in
set_option maxHeartbeats 8000000 in
theorem make_no (w : World) (x : PPlace) (L : PlLay) (hx : PlaceIn w x L) (hno : x.ok = false) (gp op cp : Nat) (hpl : gp < w.heap.size) (hcp : 1 ≤ cp) (hcells : ∀ j u, (placeCells x L)[j]? = some u → w.cell? ⟨gp, op + j, none⟩ = some u) :
    Calls Tryz.prog 9 #[.slice (some ⟨gp, op, none⟩) 1 cp] w fun e w' => ∃ dg dc wg wc mg mc, e = .returned (.tuple #[bothV dg dc wg wc mg mc, .bool true]) ∧ w'.cell? ⟨dg, 0, none⟩ = some Value.nilIface ∧ w'.cell? ⟨wg, 0, none⟩ = some (.pointer none) ∧ w'.cell? ⟨mg, 0, none⟩ = some (.pointer none) ∧ Caps dc wc mc ∧ Below w.heap.size w w' := by
  obtain ⟨there, room, fs, plan, off, fused, R, C, I⟩ := x
  obtain ⟨fa, fc, pa, pc⟩ := L
  unfold placeCells at hcells
  simp only at hcells
  have p0 : w.cell? ⟨gp, op, none⟩ = some (.bool there) := hcells 0 _ rfl
  have p1 : w.cell? ⟨gp, op + 1, none⟩ = some (.int .i64 room) := hcells 1 _ rfl
  have p2 : w.cell? ⟨gp, op + 2, none⟩ = some (.slice fa fs.length fc) := hcells 2 _ rfl
  have p3 : w.cell? ⟨gp, op + 3, none⟩ = some (.slice pa plan.length pc) := hcells 3 _ rfl
  have p4 : w.cell? ⟨gp, op + 4, none⟩ = some (.bool off) := hcells 4 _ rfl
  have p5 : w.cell? ⟨gp, op + 5, none⟩ = some (.bool fused) := hcells 5 _ rfl
  have p6 : w.cell? ⟨gp, op + 6, none⟩ = some (.int .i64 R) := hcells 6 _ rfl
  have p7 : w.cell? ⟨gp, op + 7, none⟩ = some (.int .i64 C) := hcells 7 _ rfl
  have p8 : w.cell? ⟨gp, op + 8, none⟩ = some (.int .i64 I) := hcells 8 _ rfl
  have HX := Lib.hid hx
  clear hx hcells
  cases there with
  | false =>
    clear hno
    obtain ⟨iM, hiM, hz0M, hz1M, hz2M⟩ := info_parts pdiskInfo
    obtain ⟨iU, hiU, hz0U, hz1U, hz2U⟩ := info_parts pwoundInfo
    obtain ⟨iD, hiD, hz0D, hz1D, hz2D⟩ := info_parts idiskInfo
    go_enter Tryz.func9, Tryz.ntmps9
    go_wp2
    refine wp_loop_rounds 2 ?_
    rw [rounds_succ]
    go_upto_region 13 with fail
    refine wp_world fun W hW => ?_
    have HBI0 : Hid (BothIn W w.heap.size (w.heap.size + 1) (.slice none 0 0) (.slice none 0 0) (.slice none 0 0)) := Lib.hid (by rw [hW]; exact ⟨((blk_last w _ _ _ rfl).alloc _).alloc _, (blk_last (w.alloc _) _ _ _ (by simp)).alloc _, by omega⟩)
    have e0 := HBI0.out.b.cell 0
    have e1 := HBI0.out.b.cell 1
    have e2 := HBI0.out.b.cell 2
    simp at e0 e1 e2
    have ef := HBI0.out.b.frozen
    have el : w.heap.size + 1 < W.heap.size := HBI0.out.b.lt
    have HBW : Hid (Below w.heap.size w W) := Lib.hid (by rw [hW]; exact (((Below.refl _ w).alloc (Nat.le_refl _) _).alloc (by simp) _).alloc (by simp; omega) _)
    clear hW
    go_wp2_with (first
      | (at_builtin; (refine wpList_append_any _ (by rfl) (.tmp 41) (.tmp 43) 34 (by rfl) W.heap.size 84 iM _ 1 8 Tryz.underlying34 hiM hz0M hz1M hz2M rfl (by omega) (.slice none 0 0) 0 [] (by rfl) (World.ownsRow_nil _ _ _ _) (W.heap.size + 1) (some ⟨W.heap.size, 0, none⟩) 1 1 [.pointer none] (by rfl) (by exact reads_blk (t := 84) (blk_last _ _ _ _ rfl) (by omega) rfl) (by intro u hu; simp at hu; subst hu; rfl) (by simp only [maxLen]; omega) (by omega) (by simp) ?_); intro vwm wm hown hg hat; obtain ⟨awm, cwm, rfl, _⟩ := own_shape hown; rw [Nat.zero_add, List.nil_append] at hown; go_must (have biwm := (HBI0.out).grown hg; have Owm := Lib.hid hown; have BIwm := Lib.hid biwm; have ewm0 := biwm.b.cell 0; have ewm1 := biwm.b.cell 1; have ewm2 := biwm.b.cell 2; simp at ewm0 ewm1 ewm2; have ewmf := biwm.b.frozen; have rwm0 := biwm.r.cell 0; have rwm1 := biwm.r.cell 1; have rwm2 := biwm.r.cell 2; simp at rwm0 rwm1 rwm2; have rwmf := biwm.r.frozen; have rwml : w.heap.size < wm.heap.size := biwm.r.lt; have ewml : w.heap.size + 1 < wm.heap.size := biwm.b.lt; have HGwm := Lib.hid hg; have hswm : W.heap.size < wm.heap.size := (by have h9 := hg.size; simp only [alloc_size] at h9; omega); clear hown hg hat biwm))
      | (at_builtin; (refine wpList_append_any _ (by rfl) (.tmp 47) (.tmp 49) 33 (by rfl) wm.heap.size 40 iU _ 1 8 Tryz.underlying33 hiU hz0U hz1U hz2U rfl (by omega) (.slice none 0 0) 0 [] (by rfl) (World.ownsRow_nil _ _ _ _) (wm.heap.size + 1) (some ⟨wm.heap.size, 0, none⟩) 1 1 [.pointer none] (by rfl) (by exact reads_blk (t := 40) (blk_last _ _ _ _ (size_set' _ _ _).symm) (by omega) rfl) (by intro u hu; simp at hu; subst hu; rfl) (by simp only [maxLen]; omega) (by omega) (by simp) ?_); intro vwu wu hown hg hat; obtain ⟨awu, cwu, rfl, _⟩ := own_shape hown; rw [Nat.zero_add, List.nil_append] at hown; go_must (have biwu := (BIwm.out.setM (.slice awm 1 cwm)).grown hg; have Owu := Lib.hid hown; have Owm2 : Hid (wu.ownsRow W.heap.size 84 1 (.slice awm 1 cwm) 1 [.pointer none]) := Lib.hid (((row_set Owm.out BIwm.out.b (by decide) 2 (.slice awm 1 cwm)).alloc _).kept hg (own_or_none _)); have BIwu := Lib.hid biwu; have ewu0 := biwu.b.cell 0; have ewu1 := biwu.b.cell 1; have ewu2 := biwu.b.cell 2; simp at ewu0 ewu1 ewu2; have ewuf := biwu.b.frozen; have rwu0 := biwu.r.cell 0; have rwu1 := biwu.r.cell 1; have rwu2 := biwu.r.cell 2; simp at rwu0 rwu1 rwu2; have rwuf := biwu.r.frozen; have rwul : w.heap.size < wu.heap.size := biwu.r.lt; have ewul : w.heap.size + 1 < wu.heap.size := biwu.b.lt; have HGwu := Lib.hid hg; have hswu : wm.heap.size < wu.heap.size := (by have h9 := hg.size; simp only [alloc_size, size_set'] at h9; omega); clear hown hg hat biwu))
      | (at_builtin; (refine wpList_append_any _ (by rfl) (.tmp 55) (.tmp 56) 32 (by rfl) wu.heap.size 91 iD _ 1 16 Tryz.underlying32 hiD hz0D hz1D hz2D rfl (by omega) (.slice none 0 0) 0 [] (by rfl) (World.ownsRow_nil _ _ _ _) (wu.heap.size + 1) (some ⟨wu.heap.size, 0, none⟩) 1 1 [Value.nilIface] (by rfl) (by exact reads_blk (t := 91) (blk_last _ _ _ _ (size_set' _ _ _).symm) (by omega) rfl) (by intro u hu; simp at hu; subst hu; rfl) (by simp only [maxLen]; omega) (by omega) (by simp) ?_); intro vwd wd hown hg hat; obtain ⟨awd, cwd, rfl, _⟩ := own_shape hown; rw [Nat.zero_add, List.nil_append] at hown; go_must (have biwd := (BIwu.out.setU (.slice awu 1 cwu)).grown hg; have Owd := Lib.hid hown; have Owm3 : Hid (wd.ownsRow W.heap.size 84 1 (.slice awm 1 cwm) 1 [.pointer none]) := Lib.hid (((row_set Owm2.out BIwu.out.b (by decide) 1 (.slice awu 1 cwu)).alloc _).kept hg (own_or_none _)); have Owu3 : Hid (wd.ownsRow wm.heap.size 40 1 (.slice awu 1 cwu) 1 [.pointer none]) := Lib.hid (((row_set Owu.out BIwu.out.b (by decide) 1 (.slice awu 1 cwu)).alloc _).kept hg (own_or_none _)); have BIwd := Lib.hid biwd; have ewd0 := biwd.b.cell 0; have ewd1 := biwd.b.cell 1; have ewd2 := biwd.b.cell 2; simp at ewd0 ewd1 ewd2; have ewdf := biwd.b.frozen; have rwd0 := biwd.r.cell 0; have rwd1 := biwd.r.cell 1; have rwd2 := biwd.r.cell 2; simp at rwd0 rwd1 rwd2; have rwdf := biwd.r.frozen; have rwdl : w.heap.size < wd.heap.size := biwd.r.lt; have ewdl : w.heap.size + 1 < wd.heap.size := biwd.b.lt; have HGwd := Lib.hid hg; have hswd : wu.heap.size < wd.heap.size := (by have h9 := hg.size; simp only [alloc_size, size_set'] at h9; omega); clear hown hg hat biwd)))
    rw [rounds_succ]
    go_wp2
    refine bodyPost_ret (v := .tuple #[.agg #[.slice awd 1 cwd, .slice awu 1 cwu, .slice awm 1 cwm], .bool true]) (by simp only [results, Tryz.results9]; go_simp) rfl ?_
    have bD := BIwd.out.setD (.slice awd 1 cwd)
    obtain ⟨gD, rfl, _, _, xD, kD⟩ := own_one (bD.fin3 (.slice awd 1 cwd) (.slice awu 1 cwu) (.slice awm 1 cwm) (row_set Owd.out BIwd.out.b (by decide) 0 (.slice awd 1 cwd)) (by decide))
    obtain ⟨gU, rfl, _, _, xU, kU⟩ := own_one (bD.fin3 (.slice (some ⟨gD, 0, none⟩) 1 cwd) (.slice awu 1 cwu) (.slice awm 1 cwm) (row_set Owu3.out BIwd.out.b (by decide) 0 (.slice (some ⟨gD, 0, none⟩) 1 cwd)) (by decide))
    obtain ⟨gM, rfl, _, _, xM, kM⟩ := own_one (bD.fin3 (.slice (some ⟨gD, 0, none⟩) 1 cwd) (.slice (some ⟨gU, 0, none⟩) 1 cwu) (.slice awm 1 cwm) (row_set Owm3.out BIwd.out.b (by decide) 0 (.slice (some ⟨gD, 0, none⟩) 1 cwd)) (by decide))
    refine ⟨gD, cwd, gU, cwu, gM, cwm, rfl, xD, xU, xM, ⟨kD, kU, kM⟩, ?_⟩
    have b1 : Below w.heap.size w wm := (HBW.out.alloc (by omega) _).grown HGwm.out (by simp; omega) (fun k hk => by simp [Value.ownBlock] at hk)
    have b2 : Below w.heap.size w wu := ((b1.setCell (by simp) _).alloc (by simp; omega) _).grown HGwu.out (by simp; omega) (fun k hk => by simp [Value.ownBlock] at hk)
    have b3 : Below w.heap.size w wd := ((b2.setCell (by simp) _).alloc (by simp; omega) _).grown HGwd.out (by simp; omega) (fun k hk => by simp [Value.ownBlock] at hk)
    exact (((b3.setCell (by simp) _).setCell (by simp) _).setCell (by simp) _).setCell (by simp) _
  | true =>
    obtain ⟨iM, hiM, hz0M, hz1M, hz2M⟩ := info_parts pdiskInfo
    obtain ⟨iU, hiU, hz0U, hz1U, hz2U⟩ := info_parts pwoundInfo
    obtain ⟨iD, hiD, hz0D, hz1D, hz2D⟩ := info_parts idiskInfo
    have hload : loadOk room fs = false := by simpa [PPlace.ok] using hno
    clear hno
    obtain ⟨vals, hfin⟩ := HX.out.files
    have HFI : Hid (∀ V, Below w.heap.size w V → FilesIn V fa fs vals) := Lib.hid fun V hV => hfin.keep hV
    have HSP : Hid (∀ ad, fa = some ad → 0 < fs.length → ad.spot = none) := Lib.hid HX.out.spot
    have HNF : Hid (fs.length ≤ 1099511627776) := Lib.hid HX.out.nf
    have HTO : Hid (Drv.total fs ≤ 140737488351232) := Lib.hid HX.out.tot
    have HNLN : Hid (∀ f ∈ fs, f.1.length ≤ 1099511627776) := Lib.hid HX.out.nl
    have HLO := Lib.hid hload
    clear hfin hload
    go_enter Tryz.func9, Tryz.ntmps9
    go_wp2
    refine wp_loop_rounds 2 ?_
    rw [rounds_succ]
    go_upto_region 9 with fail
    refine wp_world fun V hV => ?_
    have HBV : Hid (Below w.heap.size w V) := Lib.hid (by rw [hV]; exact (((Below.refl _ w).alloc (Nat.le_refl _) _).alloc (by simp) _).alloc (by simp; omega) _)
    have HBI : Hid (BothIn V w.heap.size (w.heap.size + 1) (.slice none 0 0) (.slice none 0 0) (.slice none 0 0)) := Lib.hid (by rw [hV]; exact ⟨((blk_last w _ _ _ rfl).alloc _).alloc _, (blk_last (w.alloc _) _ _ _ (by simp)).alloc _, by omega⟩)
    have HPB : Hid (Blk V (w.heap.size + 1 + 1) 25 #[.bool true, .int .i64 room, .slice fa fs.length fc, .slice pa plan.length pc, .bool off, .bool fused, .int .i64 R, .int .i64 C, .int .i64 I]) := Lib.hid (by rw [hV]; exact blk_last _ _ _ _ (by simp))
    have q1 : V.cell? ⟨w.heap.size + 1 + 1, 1, none⟩ = some (.int .i64 room) := HPB.out.cell 1
    have q2 : V.cell? ⟨w.heap.size + 1 + 1, 2, none⟩ = some (.slice fa fs.length fc) := HPB.out.cell 2
    have hlV : w.heap.size + 1 + 1 < V.heap.size := HPB.out.lt
    have hVs : V.heap.size = w.heap.size + 3 := by rw [hV]; simp
    clear hV p0 p1 p2 p3 p4 p5 p6 p7 p8
    go_upto_region 10 with (first
      | (go_at_call 35; refine (mload_any room fs vals fa fc _ (HFI.out _ HBV.out) HSP.out HNF.out HTO.out HNLN.out).mono ?_; rintro e w2 ⟨_, hn2, hb2⟩; obtain rfl := hn2 HLO.out; have HB2 := Lib.hid hb2; clear hn2 hb2)
      | (go_at_call 34; refine (mdnew_nil _).mono ?_; rintro e w3 ⟨rfl, rfl⟩))
    have r1 : w2.cell? ⟨w.heap.size + 1 + 1, 1, none⟩ = some (.int .i64 room) := (HB2.out.cell (p := ⟨w.heap.size + 1 + 1, 1, none⟩) hlV).trans q1
    have r2 : w2.cell? ⟨w.heap.size + 1 + 1, 2, none⟩ = some (.slice fa fs.length fc) := (HB2.out.cell (p := ⟨w.heap.size + 1 + 1, 2, none⟩) hlV).trans q2
    have hs2 := HB2.out.size
    have HQ : Hid (∀ Z, Below w2.heap.size w2 Z → Z.cell? ⟨w.heap.size + 1 + 1, 1, none⟩ = some (.int .i64 room) ∧ Z.cell? ⟨w.heap.size + 1 + 1, 2, none⟩ = some (.slice fa fs.length fc)) := Lib.hid fun Z hZ => ⟨(hZ.cell (p := ⟨w.heap.size + 1 + 1, 1, none⟩) (by show w.heap.size + 1 + 1 < _; omega)).trans r1, (hZ.cell (p := ⟨w.heap.size + 1 + 1, 2, none⟩) (by show w.heap.size + 1 + 1 < _; omega)).trans r2⟩
    have HBW2 : Hid (Below w.heap.size w w2) := Lib.hid (HBV.out.trans (HB2.out.mono (by omega)))
    go_region_held3 (fun w' => w'.cell? ⟨w.heap.size + 1 + 1, 1, none⟩ = some (.int .i64 room) ∧ w'.cell? ⟨w.heap.size + 1 + 1, 2, none⟩ = some (.slice fa fs.length fc)) (first | (with_reducible exact HQ3.out) | (with_reducible exact HQ4.out) | go_keep) ((first
      | (go_at_call 37; refine (pfiles_any fs vals fa fc _ (HFI.out _ (below_drew1 HBW2.out)) HSP.out HNF.out HTO.out).mono ?_; rintro e w3 ⟨v3, rfl, hf3, hb3'⟩; obtain ⟨A3, c3, vals3, rfl, hin3, hsp3⟩ := hf3.filesIn; have hb3 : Below w2.heap.size w2 w3 := ⟨hb3'.os, hb3'.tape, hb3'.output, hb3'.size, hb3'.block⟩; have HB3 := Lib.hid hb3; have HIN3 := Lib.hid hin3; have HSP3 := Lib.hid hsp3; have HQ3 := Lib.hid (HQ.out _ hb3); clear hf3 hb3' hin3 hsp3 hb3)
      | (go_at_call 36; refine (dload_any room fs vals3 A3 c3 _ HIN3.out (fun ad e _ => HSP3.out ad e) HNF.out HTO.out HNLN.out _ rfl).mono ?_; rintro e w4 ⟨_, hn4, hb4⟩; obtain rfl := hn4 HLO.out; have hb24 : Below w2.heap.size w2 w4 := HB3.out.trans (hb4.mono HB3.out.size); have HB4 := Lib.hid hb24; have HQ4 := Lib.hid (HQ.out _ hb24); clear hn4 hb4 hb24)
      | (go_at_call 31; refine (wnew_no _).mono ?_; rintro e w5 ⟨rfl, rfl⟩)
      | fail))
    all_goals (
      go_upto_region 13 with fail
      refine wp_world fun W hW => ?_
      have hVW : Below V.heap.size V W := by rw [hW]; exact HB2.out.trans (HB4.out.mono hs2)
      have HBI0 : Hid (BothIn W w.heap.size (w.heap.size + 1) (.slice none 0 0) (.slice none 0 0) (.slice none 0 0)) := Lib.hid ⟨HBI.out.r.below hVW HBI.out.r.lt, HBI.out.b.below hVW HBI.out.b.lt, by omega⟩
      have HBW : Hid (Below w.heap.size w W) := Lib.hid (HBV.out.trans (hVW.mono (by omega)))
      clear hW hVW
      have e0 := HBI0.out.b.cell 0
      have e1 := HBI0.out.b.cell 1
      have e2 := HBI0.out.b.cell 2
      simp at e0 e1 e2
      have ef := HBI0.out.b.frozen
      have el : w.heap.size + 1 < W.heap.size := HBI0.out.b.lt
      go_wp2_with (first
        | (at_builtin; (refine wpList_append_any _ (by rfl) (.tmp 41) (.tmp 43) 34 (by rfl) W.heap.size 84 iM _ 1 8 Tryz.underlying34 hiM hz0M hz1M hz2M rfl (by omega) (.slice none 0 0) 0 [] (by rfl) (World.ownsRow_nil _ _ _ _) (W.heap.size + 1) (some ⟨W.heap.size, 0, none⟩) 1 1 [.pointer none] (by rfl) (by exact reads_blk (t := 84) (blk_last _ _ _ _ rfl) (by omega) rfl) (by intro u hu; simp at hu; subst hu; rfl) (by simp only [maxLen]; omega) (by omega) (by simp) ?_); intro vwm wm hown hg hat; obtain ⟨awm, cwm, rfl, _⟩ := own_shape hown; rw [Nat.zero_add, List.nil_append] at hown; go_must (have biwm := (HBI0.out).grown hg; have Owm := Lib.hid hown; have BIwm := Lib.hid biwm; have ewm0 := biwm.b.cell 0; have ewm1 := biwm.b.cell 1; have ewm2 := biwm.b.cell 2; simp at ewm0 ewm1 ewm2; have ewmf := biwm.b.frozen; have rwm0 := biwm.r.cell 0; have rwm1 := biwm.r.cell 1; have rwm2 := biwm.r.cell 2; simp at rwm0 rwm1 rwm2; have rwmf := biwm.r.frozen; have rwml : w.heap.size < wm.heap.size := biwm.r.lt; have ewml : w.heap.size + 1 < wm.heap.size := biwm.b.lt; have HGwm := Lib.hid hg; have hswm : W.heap.size < wm.heap.size := (by have h9 := hg.size; simp only [alloc_size] at h9; omega); clear hown hg hat biwm))
        | (at_builtin; (refine wpList_append_any _ (by rfl) (.tmp 47) (.tmp 49) 33 (by rfl) wm.heap.size 40 iU _ 1 8 Tryz.underlying33 hiU hz0U hz1U hz2U rfl (by omega) (.slice none 0 0) 0 [] (by rfl) (World.ownsRow_nil _ _ _ _) (wm.heap.size + 1) (some ⟨wm.heap.size, 0, none⟩) 1 1 [.pointer none] (by rfl) (by exact reads_blk (t := 40) (blk_last _ _ _ _ (size_set' _ _ _).symm) (by omega) rfl) (by intro u hu; simp at hu; subst hu; rfl) (by simp only [maxLen]; omega) (by omega) (by simp) ?_); intro vwu wu hown hg hat; obtain ⟨awu, cwu, rfl, _⟩ := own_shape hown; rw [Nat.zero_add, List.nil_append] at hown; go_must (have biwu := (BIwm.out.setM (.slice awm 1 cwm)).grown hg; have Owu := Lib.hid hown; have Owm2 : Hid (wu.ownsRow W.heap.size 84 1 (.slice awm 1 cwm) 1 [.pointer none]) := Lib.hid (((row_set Owm.out BIwm.out.b (by decide) 2 (.slice awm 1 cwm)).alloc _).kept hg (own_or_none _)); have BIwu := Lib.hid biwu; have ewu0 := biwu.b.cell 0; have ewu1 := biwu.b.cell 1; have ewu2 := biwu.b.cell 2; simp at ewu0 ewu1 ewu2; have ewuf := biwu.b.frozen; have rwu0 := biwu.r.cell 0; have rwu1 := biwu.r.cell 1; have rwu2 := biwu.r.cell 2; simp at rwu0 rwu1 rwu2; have rwuf := biwu.r.frozen; have rwul : w.heap.size < wu.heap.size := biwu.r.lt; have ewul : w.heap.size + 1 < wu.heap.size := biwu.b.lt; have HGwu := Lib.hid hg; have hswu : wm.heap.size < wu.heap.size := (by have h9 := hg.size; simp only [alloc_size, size_set'] at h9; omega); clear hown hg hat biwu))
        | (at_builtin; (refine wpList_append_any _ (by rfl) (.tmp 55) (.tmp 56) 32 (by rfl) wu.heap.size 91 iD _ 1 16 Tryz.underlying32 hiD hz0D hz1D hz2D rfl (by omega) (.slice none 0 0) 0 [] (by rfl) (World.ownsRow_nil _ _ _ _) (wu.heap.size + 1) (some ⟨wu.heap.size, 0, none⟩) 1 1 [Value.nilIface] (by rfl) (by exact reads_blk (t := 91) (blk_last _ _ _ _ (size_set' _ _ _).symm) (by omega) rfl) (by intro u hu; simp at hu; subst hu; rfl) (by simp only [maxLen]; omega) (by omega) (by simp) ?_); intro vwd wd hown hg hat; obtain ⟨awd, cwd, rfl, _⟩ := own_shape hown; rw [Nat.zero_add, List.nil_append] at hown; go_must (have biwd := (BIwu.out.setU (.slice awu 1 cwu)).grown hg; have Owd := Lib.hid hown; have Owm3 : Hid (wd.ownsRow W.heap.size 84 1 (.slice awm 1 cwm) 1 [.pointer none]) := Lib.hid (((row_set Owm2.out BIwu.out.b (by decide) 1 (.slice awu 1 cwu)).alloc _).kept hg (own_or_none _)); have Owu3 : Hid (wd.ownsRow wm.heap.size 40 1 (.slice awu 1 cwu) 1 [.pointer none]) := Lib.hid (((row_set Owu.out BIwu.out.b (by decide) 1 (.slice awu 1 cwu)).alloc _).kept hg (own_or_none _)); have BIwd := Lib.hid biwd; have ewd0 := biwd.b.cell 0; have ewd1 := biwd.b.cell 1; have ewd2 := biwd.b.cell 2; simp at ewd0 ewd1 ewd2; have ewdf := biwd.b.frozen; have rwd0 := biwd.r.cell 0; have rwd1 := biwd.r.cell 1; have rwd2 := biwd.r.cell 2; simp at rwd0 rwd1 rwd2; have rwdf := biwd.r.frozen; have rwdl : w.heap.size < wd.heap.size := biwd.r.lt; have ewdl : w.heap.size + 1 < wd.heap.size := biwd.b.lt; have HGwd := Lib.hid hg; have hswd : wu.heap.size < wd.heap.size := (by have h9 := hg.size; simp only [alloc_size, size_set'] at h9; omega); clear hown hg hat biwd)))
      rw [rounds_succ]
      go_wp2
      refine bodyPost_ret (v := .tuple #[.agg #[.slice awd 1 cwd, .slice awu 1 cwu, .slice awm 1 cwm], .bool true]) (by simp only [results, Tryz.results9]; go_simp) rfl ?_
      have bD := BIwd.out.setD (.slice awd 1 cwd)
      obtain ⟨gD, rfl, _, _, xD, kD⟩ := own_one (bD.fin3 (.slice awd 1 cwd) (.slice awu 1 cwu) (.slice awm 1 cwm) (row_set Owd.out BIwd.out.b (by decide) 0 (.slice awd 1 cwd)) (by decide))
      obtain ⟨gU, rfl, _, _, xU, kU⟩ := own_one (bD.fin3 (.slice (some ⟨gD, 0, none⟩) 1 cwd) (.slice awu 1 cwu) (.slice awm 1 cwm) (row_set Owu3.out BIwd.out.b (by decide) 0 (.slice (some ⟨gD, 0, none⟩) 1 cwd)) (by decide))
      obtain ⟨gM, rfl, _, _, xM, kM⟩ := own_one (bD.fin3 (.slice (some ⟨gD, 0, none⟩) 1 cwd) (.slice (some ⟨gU, 0, none⟩) 1 cwu) (.slice awm 1 cwm) (row_set Owm3.out BIwd.out.b (by decide) 0 (.slice (some ⟨gD, 0, none⟩) 1 cwd)) (by decide))
      refine ⟨gD, cwd, gU, cwu, gM, cwm, rfl, xD, xU, xM, ⟨kD, kU, kM⟩, ?_⟩
      have b1 : Below w.heap.size w wm := (HBW.out.alloc (by omega) _).grown HGwm.out (by simp; omega) (fun k hk => by simp [Value.ownBlock] at hk)
      have b2 : Below w.heap.size w wu := ((b1.setCell (by simp) _).alloc (by simp; omega) _).grown HGwu.out (by simp; omega) (fun k hk => by simp [Value.ownBlock] at hk)
      have b3 : Below w.heap.size w wd := ((b2.setCell (by simp) _).alloc (by simp; omega) _).grown HGwd.out (by simp; omega) (fun k hk => by simp [Value.ownBlock] at hk)
      exact (((b3.setCell (by simp) _).setCell (by simp) _).setCell (by simp) _).setCell (by simp) _
      )
end Go.Proofs.YtdmcjomcbhdcbaaGreat
