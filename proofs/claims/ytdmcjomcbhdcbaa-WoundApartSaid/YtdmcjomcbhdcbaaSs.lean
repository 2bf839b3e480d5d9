/- 'hurt' at each of the eight calls, its answer's rows told apart from what the wound and its drive have. -/
import Derived.Test.YtdmcjomcbhdcbaaLt
namespace Go.Proofs.Ytdmcjomcbhdcbaa
open Go.RowKit Go.Maps

/-- What a step of a wound leaves: its answer's rows lie at 'mid' or above, the wound and its drive below. -/
def Mid (w w' : World) (q p : Nat) (F : Nat → Prop) (u : Value) (sd : Said) (Y : Wnd) (T : Drv) : Prop :=
  ∃ mid, w.heap.size ≤ mid ∧ mid ≤ w'.heap.size ∧ SaidAt w' mid u sd ∧ WD w' q p Y T (fun k => grow F w w' k ∧ k < mid) ∧ Touch F w w'
section
variable {w W w2 X : World} {q p : Nat} {Y : Wnd} {S T : Drv} {F G : Nat → Prop} {u : Value} {sd : Said}
theorem Mid.code (h : ∀ b, SaidAt X b u sd) (f : WD X q p Y T (grow F w X) ∧ Touch F w X) : Mid w X q p F u sd Y T :=
  ⟨X.heap.size, f.2.size, Nat.le_refl _, h _, f.1.lt, f.2⟩
theorem Mid.read (h : SaidAt X w.heap.size u sd) (f : WD X q p Y T F ∧ Touch F w X) (hF : ∀ k, F k → k < w.heap.size) : Mid w X q p F u sd Y T :=
  ⟨w.heap.size, Nat.le_refl _, f.2.size, h, f.1.mono fun k hk => ⟨.inl hk, hF k hk⟩, f.2⟩
theorem Mid.weak (h : Mid w X q p F u sd Y T) : SaidAt X w.heap.size u sd ∧ WD X q p Y T (grow F w X) ∧ Touch F w X := by
  obtain ⟨mid, h1, _, h2, h3, h4⟩ := h
  exact ⟨h2.base h1, h3.mono fun k hk => hk.1, h4⟩
theorem frame_rd (hW : Below w.heap.size w W) (hd : WD w2 q p Y S F) (ht : Touch F W w2) (hX : Touch G w2 X) (hsz : X.heap.size = w2.heap.size)
    (hF : ∀ k, F k → k < w.heap.size) (hG : ∀ k, G k → w.heap.size ≤ k ∧ k < W.heap.size) : WD X q p Y S F ∧ Touch F w X :=
  ⟨hd.keep hX fun k hk hg => by have := hF k hk; have := hG k hg; omega, (frame_wd hW (hd.mono fun k hk => .inl hk) ht hX hsz hF hG).2⟩
/-- A step within a frame of blocks of its own. -/
theorem Mid.frame (hW : Below w.heap.size w W) (h : Mid W w2 q p F u sd Y T) (hX : Touch G w2 X) (hsz : X.heap.size = w2.heap.size) (hF : ∀ k, F k → k < w.heap.size) (hG : ∀ k, G k → w.heap.size ≤ k ∧ k < W.heap.size) : Mid w X q p F u sd Y T := by
  obtain ⟨mid, h1, h2, h3, h4, h5⟩ := h
  have hs := hW.size
  refine ⟨mid, by omega, by omega, h3.touch hX fun k hk => by have := hG k hk; omega, ?_, (frame_wd hW (h4.mono fun k hk => hk.1) h5 hX hsz hF hG).2⟩
  refine (h4.keep hX fun k hk hg => ?_).mono fun k hk => ⟨?_, hk.2⟩
  · have := hG k hg
    rcases hk.1 with hk | hk
    · have := hF k hk; omega
    · omega
  · rcases hk.1 with hk | hk
    · exact .inl hk
    · exact .inr ⟨by omega, by omega⟩
end

set_option maxRecDepth 100000 in
set_option maxHeartbeats 1000000 in
theorem hurtS_create (q p : Nat) (X : Wnd) (S : Drv) (F : Nat → Prop) (x : PStep) (L : SLay) (w : World) (hk : x.kind = 1) (hx : x.Fits) (hd : WD w q p X S F) (hF : ∀ k, F k → k < w.heap.size) (hX : X.Ok) (hS : S.Small) :
    Calls Try.prog 37 #[.pointer (some ⟨q, 0, none⟩), .agg (stepCells x L)] w fun e w' =>
      ∃ u, e = .returned u ∧ Mid w w' q p F u (.code (wcall X S true (S.create x.nm)).2.2) (wcall X S true (S.create x.nm)).1 (wcall X S true (S.create x.nm)).2.1 := by
  have HOK := Lib.hid hX
  have HX := Lib.hid hx
  have HD := Lib.hid hd
  have HF := Lib.hid hF
  have HS := Lib.hid hS
  obtain ⟨E, hE⟩ : ∃ E, E = (wcall X S true (S.create x.nm)).2.2 := ⟨_, rfl⟩
  have HE := Lib.hid hE
  rw [← HE.out]
  obtain ⟨T, hT⟩ : ∃ T, T = (wcall X S true (S.create x.nm)).2.1 := ⟨_, rfl⟩
  have HT := Lib.hid hT
  rw [← HT.out]
  obtain ⟨Y, hY⟩ : ∃ Y, Y = (wcall X S true (S.create x.nm)).1 := ⟨_, rfl⟩
  have HY := Lib.hid hY
  rw [← HY.out]
  obtain ⟨W, hW⟩ : ∃ W, W = ((w.alloc (.cells (stepCells x L) 69)).alloc (.cells zeroSaid 41)).alloc (.cells zeroSaid 41) := ⟨_, rfl⟩
  have HWB : Hid (Below w.heap.size w W) := Lib.hid (by rw [hW]; exact (((Below.refl _ w).alloc (Nat.le_refl _) _).alloc (by simp) _).alloc (by simp; omega) _)
  have HBW : Hid (Box W w.heap.size) := Lib.hid (by
    rw [hW]
    constructor
    · have := Blk.new ((w.alloc (.cells (stepCells x L) 69)).alloc (.cells zeroSaid 41)) 41 zeroSaid
      simpa using this
    · have := Blk.new (w.alloc (.cells (stepCells x L) 69)) 41 zeroSaid
      have := this.alloc (.cells zeroSaid 41)
      simpa using this)
  have HXW : Hid (Blk W w.heap.size 69 (stepCells x L)) := Lib.hid (by rw [hW]; exact ((Blk.new _ _ _).alloc _).alloc _)
  have HWS : Hid (W.heap.size = w.heap.size + 3) := Lib.hid (by rw [hW]; simp)
  unfold stepCells zeroSaid at hW
  rw [hk] at hW
  unfold stepCells
  rw [hk]
  have HW := Lib.hid hW
  clear hk hx hd hF hS hX hE hT hY hW
  go_enter Try.func37, Try.ntmps37
  go_wp2_with (go_at_call 14; rw [← HW.out]; refine (wcreate_any q p X S F x.name W HX.out.name (HD.out.below HWB.out) HOK.out HS.out).mono ?_; rintro e w2 ⟨rfl, hd2, ht2⟩; rw [← HE.out]; rw [← HT.out, ← HY.out] at hd2; have HBX := Lib.hid (HBW.out.touch ht2 HF.out); have HD2 := Lib.hid hd2; have HT2 := Lib.hid ht2; clear hd2 ht2; have b0 : w2.cell? ⟨w.heap.size + 1 + 1, 0, none⟩ = some (.int .i64 0) := HBX.out.s.cell 0; have b1 : w2.cell? ⟨w.heap.size + 1 + 1, 1, none⟩ = some (.slice none 0 0) := HBX.out.s.cell 1; have b2 : w2.cell? ⟨w.heap.size + 1 + 1, 2, none⟩ = some (.slice none 0 0) := HBX.out.s.cell 2; have b3 : w2.cell? ⟨w.heap.size + 1 + 1, 3, none⟩ = some (.slice none 0 0) := HBX.out.s.cell 3; have b4 : w2.cell? ⟨w.heap.size + 1 + 1, 4, none⟩ = some (.int .i64 0) := HBX.out.s.cell 4; have b5 : w2.cell? ⟨w.heap.size + 1 + 1, 5, none⟩ = some (.bool false) := HBX.out.s.cell 5; have bf : ∀ i, w2.frozen? ⟨w.heap.size + 1 + 1, i, none⟩ = false := HBX.out.s.frozen; have r0 : w2.cell? ⟨w.heap.size + 1, 0, none⟩ = some (.int .i64 0) := HBX.out.r.cell 0; have r1 : w2.cell? ⟨w.heap.size + 1, 1, none⟩ = some (.slice none 0 0) := HBX.out.r.cell 1; have r2 : w2.cell? ⟨w.heap.size + 1, 2, none⟩ = some (.slice none 0 0) := HBX.out.r.cell 2; have r3 : w2.cell? ⟨w.heap.size + 1, 3, none⟩ = some (.slice none 0 0) := HBX.out.r.cell 3; have r4 : w2.cell? ⟨w.heap.size + 1, 4, none⟩ = some (.int .i64 0) := HBX.out.r.cell 4; have r5 : w2.cell? ⟨w.heap.size + 1, 5, none⟩ = some (.bool false) := HBX.out.r.cell 5; have rf : ∀ i, w2.frozen? ⟨w.heap.size + 1, i, none⟩ = false := HBX.out.r.frozen)
  refine bodyPost_ret (v := .agg #[.int .i64 E, .slice none 0 0, .slice none 0 0, .slice none 0 0, .int .i64 0, .bool false]) (by simp only [results, Try.results37]; go_simp) rfl ?_
  refine ⟨_, rfl, Mid.code (fun b => Said.code_at _ b _) (frame_wd (G := fun k => k = w.heap.size + 1 ∨ k = w.heap.size + 1 + 1) HWB.out HD2.out HT2.out ?_ ?_ HF.out (fun k hk => by have := HWS.out; rcases hk with rfl | rfl <;> omega))⟩
  · exact (((((((Touch.refl _ _).set (Or.inr rfl) _).set (Or.inl rfl) _).set (Or.inl rfl) _).set (Or.inl rfl) _).set (Or.inl rfl) _).set (Or.inl rfl) _).set (Or.inl rfl) _
  · simp only [size_set]

set_option maxRecDepth 100000 in
set_option maxHeartbeats 1000000 in
theorem hurtS_sync (q p : Nat) (X : Wnd) (S : Drv) (F : Nat → Prop) (x : PStep) (L : SLay) (w : World) (hk : x.kind = 3) (hx : x.Fits) (hd : WD w q p X S F) (hF : ∀ k, F k → k < w.heap.size) (hX : X.Ok) (hS : S.Small) :
    Calls Try.prog 37 #[.pointer (some ⟨q, 0, none⟩), .agg (stepCells x L)] w fun e w' =>
      ∃ u, e = .returned u ∧ Mid w w' q p F u (.code (wcall X S false (S.sync x.nm)).2.2) (wcall X S false (S.sync x.nm)).1 (wcall X S false (S.sync x.nm)).2.1 := by
  have HOK := Lib.hid hX
  have HX := Lib.hid hx
  have HD := Lib.hid hd
  have HF := Lib.hid hF
  have HS := Lib.hid hS
  obtain ⟨E, hE⟩ : ∃ E, E = (wcall X S false (S.sync x.nm)).2.2 := ⟨_, rfl⟩
  have HE := Lib.hid hE
  rw [← HE.out]
  obtain ⟨T, hT⟩ : ∃ T, T = (wcall X S false (S.sync x.nm)).2.1 := ⟨_, rfl⟩
  have HT := Lib.hid hT
  rw [← HT.out]
  obtain ⟨Y, hY⟩ : ∃ Y, Y = (wcall X S false (S.sync x.nm)).1 := ⟨_, rfl⟩
  have HY := Lib.hid hY
  rw [← HY.out]
  obtain ⟨W, hW⟩ : ∃ W, W = ((w.alloc (.cells (stepCells x L) 69)).alloc (.cells zeroSaid 41)).alloc (.cells zeroSaid 41) := ⟨_, rfl⟩
  have HWB : Hid (Below w.heap.size w W) := Lib.hid (by rw [hW]; exact (((Below.refl _ w).alloc (Nat.le_refl _) _).alloc (by simp) _).alloc (by simp; omega) _)
  have HBW : Hid (Box W w.heap.size) := Lib.hid (by
    rw [hW]
    constructor
    · have := Blk.new ((w.alloc (.cells (stepCells x L) 69)).alloc (.cells zeroSaid 41)) 41 zeroSaid
      simpa using this
    · have := Blk.new (w.alloc (.cells (stepCells x L) 69)) 41 zeroSaid
      have := this.alloc (.cells zeroSaid 41)
      simpa using this)
  have HXW : Hid (Blk W w.heap.size 69 (stepCells x L)) := Lib.hid (by rw [hW]; exact ((Blk.new _ _ _).alloc _).alloc _)
  have HWS : Hid (W.heap.size = w.heap.size + 3) := Lib.hid (by rw [hW]; simp)
  unfold stepCells zeroSaid at hW
  rw [hk] at hW
  unfold stepCells
  rw [hk]
  have HW := Lib.hid hW
  clear hk hx hd hF hS hX hE hT hY hW
  go_enter Try.func37, Try.ntmps37
  go_wp2_with (go_at_call 30; rw [← HW.out]; refine (wsync_any q p X S F x.name W HX.out.name (HD.out.below HWB.out) HOK.out HS.out).mono ?_; rintro e w2 ⟨rfl, hd2, ht2⟩; rw [← HE.out]; rw [← HT.out, ← HY.out] at hd2; have HBX := Lib.hid (HBW.out.touch ht2 HF.out); have HD2 := Lib.hid hd2; have HT2 := Lib.hid ht2; clear hd2 ht2; have b0 : w2.cell? ⟨w.heap.size + 1 + 1, 0, none⟩ = some (.int .i64 0) := HBX.out.s.cell 0; have b1 : w2.cell? ⟨w.heap.size + 1 + 1, 1, none⟩ = some (.slice none 0 0) := HBX.out.s.cell 1; have b2 : w2.cell? ⟨w.heap.size + 1 + 1, 2, none⟩ = some (.slice none 0 0) := HBX.out.s.cell 2; have b3 : w2.cell? ⟨w.heap.size + 1 + 1, 3, none⟩ = some (.slice none 0 0) := HBX.out.s.cell 3; have b4 : w2.cell? ⟨w.heap.size + 1 + 1, 4, none⟩ = some (.int .i64 0) := HBX.out.s.cell 4; have b5 : w2.cell? ⟨w.heap.size + 1 + 1, 5, none⟩ = some (.bool false) := HBX.out.s.cell 5; have bf : ∀ i, w2.frozen? ⟨w.heap.size + 1 + 1, i, none⟩ = false := HBX.out.s.frozen; have r0 : w2.cell? ⟨w.heap.size + 1, 0, none⟩ = some (.int .i64 0) := HBX.out.r.cell 0; have r1 : w2.cell? ⟨w.heap.size + 1, 1, none⟩ = some (.slice none 0 0) := HBX.out.r.cell 1; have r2 : w2.cell? ⟨w.heap.size + 1, 2, none⟩ = some (.slice none 0 0) := HBX.out.r.cell 2; have r3 : w2.cell? ⟨w.heap.size + 1, 3, none⟩ = some (.slice none 0 0) := HBX.out.r.cell 3; have r4 : w2.cell? ⟨w.heap.size + 1, 4, none⟩ = some (.int .i64 0) := HBX.out.r.cell 4; have r5 : w2.cell? ⟨w.heap.size + 1, 5, none⟩ = some (.bool false) := HBX.out.r.cell 5; have rf : ∀ i, w2.frozen? ⟨w.heap.size + 1, i, none⟩ = false := HBX.out.r.frozen)
  refine bodyPost_ret (v := .agg #[.int .i64 E, .slice none 0 0, .slice none 0 0, .slice none 0 0, .int .i64 0, .bool false]) (by simp only [results, Try.results37]; go_simp) rfl ?_
  refine ⟨_, rfl, Mid.code (fun b => Said.code_at _ b _) (frame_wd (G := fun k => k = w.heap.size + 1 ∨ k = w.heap.size + 1 + 1) HWB.out HD2.out HT2.out ?_ ?_ HF.out (fun k hk => by have := HWS.out; rcases hk with rfl | rfl <;> omega))⟩
  · exact (((((((Touch.refl _ _).set (Or.inr rfl) _).set (Or.inl rfl) _).set (Or.inl rfl) _).set (Or.inl rfl) _).set (Or.inl rfl) _).set (Or.inl rfl) _).set (Or.inl rfl) _
  · simp only [size_set]

set_option maxRecDepth 100000 in
set_option maxHeartbeats 1000000 in
theorem hurtS_rename (q p : Nat) (X : Wnd) (S : Drv) (F : Nat → Prop) (x : PStep) (L : SLay) (w : World) (hk : x.kind = 4) (hx : x.Fits) (hd : WD w q p X S F) (hF : ∀ k, F k → k < w.heap.size) (hX : X.Ok) (hS : S.Small) :
    Calls Try.prog 37 #[.pointer (some ⟨q, 0, none⟩), .agg (stepCells x L)] w fun e w' =>
      ∃ u, e = .returned u ∧ Mid w w' q p F u (.code (wcall X S false (S.rename x.nm x.tn)).2.2) (wcall X S false (S.rename x.nm x.tn)).1 (wcall X S false (S.rename x.nm x.tn)).2.1 := by
  have HOK := Lib.hid hX
  have HX := Lib.hid hx
  have HD := Lib.hid hd
  have HF := Lib.hid hF
  have HS := Lib.hid hS
  obtain ⟨E, hE⟩ : ∃ E, E = (wcall X S false (S.rename x.nm x.tn)).2.2 := ⟨_, rfl⟩
  have HE := Lib.hid hE
  rw [← HE.out]
  obtain ⟨T, hT⟩ : ∃ T, T = (wcall X S false (S.rename x.nm x.tn)).2.1 := ⟨_, rfl⟩
  have HT := Lib.hid hT
  rw [← HT.out]
  obtain ⟨Y, hY⟩ : ∃ Y, Y = (wcall X S false (S.rename x.nm x.tn)).1 := ⟨_, rfl⟩
  have HY := Lib.hid hY
  rw [← HY.out]
  obtain ⟨W, hW⟩ : ∃ W, W = ((w.alloc (.cells (stepCells x L) 69)).alloc (.cells zeroSaid 41)).alloc (.cells zeroSaid 41) := ⟨_, rfl⟩
  have HWB : Hid (Below w.heap.size w W) := Lib.hid (by rw [hW]; exact (((Below.refl _ w).alloc (Nat.le_refl _) _).alloc (by simp) _).alloc (by simp; omega) _)
  have HBW : Hid (Box W w.heap.size) := Lib.hid (by
    rw [hW]
    constructor
    · have := Blk.new ((w.alloc (.cells (stepCells x L) 69)).alloc (.cells zeroSaid 41)) 41 zeroSaid
      simpa using this
    · have := Blk.new (w.alloc (.cells (stepCells x L) 69)) 41 zeroSaid
      have := this.alloc (.cells zeroSaid 41)
      simpa using this)
  have HXW : Hid (Blk W w.heap.size 69 (stepCells x L)) := Lib.hid (by rw [hW]; exact ((Blk.new _ _ _).alloc _).alloc _)
  have HWS : Hid (W.heap.size = w.heap.size + 3) := Lib.hid (by rw [hW]; simp)
  unfold stepCells zeroSaid at hW
  rw [hk] at hW
  unfold stepCells
  rw [hk]
  have HW := Lib.hid hW
  clear hk hx hd hF hS hX hE hT hY hW
  go_enter Try.func37, Try.ntmps37
  go_wp2_with (go_at_call 31; rw [← HW.out]; refine (wrename_any q p X S F x.name x.to W HX.out.name HX.out.to (HD.out.below HWB.out) HOK.out HS.out).mono ?_; rintro e w2 ⟨rfl, hd2, ht2⟩; rw [← HE.out]; rw [← HT.out, ← HY.out] at hd2; have HBX := Lib.hid (HBW.out.touch ht2 HF.out); have HD2 := Lib.hid hd2; have HT2 := Lib.hid ht2; clear hd2 ht2; have b0 : w2.cell? ⟨w.heap.size + 1 + 1, 0, none⟩ = some (.int .i64 0) := HBX.out.s.cell 0; have b1 : w2.cell? ⟨w.heap.size + 1 + 1, 1, none⟩ = some (.slice none 0 0) := HBX.out.s.cell 1; have b2 : w2.cell? ⟨w.heap.size + 1 + 1, 2, none⟩ = some (.slice none 0 0) := HBX.out.s.cell 2; have b3 : w2.cell? ⟨w.heap.size + 1 + 1, 3, none⟩ = some (.slice none 0 0) := HBX.out.s.cell 3; have b4 : w2.cell? ⟨w.heap.size + 1 + 1, 4, none⟩ = some (.int .i64 0) := HBX.out.s.cell 4; have b5 : w2.cell? ⟨w.heap.size + 1 + 1, 5, none⟩ = some (.bool false) := HBX.out.s.cell 5; have bf : ∀ i, w2.frozen? ⟨w.heap.size + 1 + 1, i, none⟩ = false := HBX.out.s.frozen; have r0 : w2.cell? ⟨w.heap.size + 1, 0, none⟩ = some (.int .i64 0) := HBX.out.r.cell 0; have r1 : w2.cell? ⟨w.heap.size + 1, 1, none⟩ = some (.slice none 0 0) := HBX.out.r.cell 1; have r2 : w2.cell? ⟨w.heap.size + 1, 2, none⟩ = some (.slice none 0 0) := HBX.out.r.cell 2; have r3 : w2.cell? ⟨w.heap.size + 1, 3, none⟩ = some (.slice none 0 0) := HBX.out.r.cell 3; have r4 : w2.cell? ⟨w.heap.size + 1, 4, none⟩ = some (.int .i64 0) := HBX.out.r.cell 4; have r5 : w2.cell? ⟨w.heap.size + 1, 5, none⟩ = some (.bool false) := HBX.out.r.cell 5; have rf : ∀ i, w2.frozen? ⟨w.heap.size + 1, i, none⟩ = false := HBX.out.r.frozen)
  refine bodyPost_ret (v := .agg #[.int .i64 E, .slice none 0 0, .slice none 0 0, .slice none 0 0, .int .i64 0, .bool false]) (by simp only [results, Try.results37]; go_simp) rfl ?_
  refine ⟨_, rfl, Mid.code (fun b => Said.code_at _ b _) (frame_wd (G := fun k => k = w.heap.size + 1 ∨ k = w.heap.size + 1 + 1) HWB.out HD2.out HT2.out ?_ ?_ HF.out (fun k hk => by have := HWS.out; rcases hk with rfl | rfl <;> omega))⟩
  · exact (((((((Touch.refl _ _).set (Or.inr rfl) _).set (Or.inl rfl) _).set (Or.inl rfl) _).set (Or.inl rfl) _).set (Or.inl rfl) _).set (Or.inl rfl) _).set (Or.inl rfl) _
  · simp only [size_set]

set_option maxRecDepth 100000 in
set_option maxHeartbeats 1000000 in
theorem hurtS_remove (q p : Nat) (X : Wnd) (S : Drv) (F : Nat → Prop) (x : PStep) (L : SLay) (w : World) (hk : x.kind = 5) (hx : x.Fits) (hd : WD w q p X S F) (hF : ∀ k, F k → k < w.heap.size) (hX : X.Ok) (hS : S.Small) :
    Calls Try.prog 37 #[.pointer (some ⟨q, 0, none⟩), .agg (stepCells x L)] w fun e w' =>
      ∃ u, e = .returned u ∧ Mid w w' q p F u (.code (wcall X S false (S.remove x.nm)).2.2) (wcall X S false (S.remove x.nm)).1 (wcall X S false (S.remove x.nm)).2.1 := by
  have HOK := Lib.hid hX
  have HX := Lib.hid hx
  have HD := Lib.hid hd
  have HF := Lib.hid hF
  have HS := Lib.hid hS
  obtain ⟨E, hE⟩ : ∃ E, E = (wcall X S false (S.remove x.nm)).2.2 := ⟨_, rfl⟩
  have HE := Lib.hid hE
  rw [← HE.out]
  obtain ⟨T, hT⟩ : ∃ T, T = (wcall X S false (S.remove x.nm)).2.1 := ⟨_, rfl⟩
  have HT := Lib.hid hT
  rw [← HT.out]
  obtain ⟨Y, hY⟩ : ∃ Y, Y = (wcall X S false (S.remove x.nm)).1 := ⟨_, rfl⟩
  have HY := Lib.hid hY
  rw [← HY.out]
  obtain ⟨W, hW⟩ : ∃ W, W = ((w.alloc (.cells (stepCells x L) 69)).alloc (.cells zeroSaid 41)).alloc (.cells zeroSaid 41) := ⟨_, rfl⟩
  have HWB : Hid (Below w.heap.size w W) := Lib.hid (by rw [hW]; exact (((Below.refl _ w).alloc (Nat.le_refl _) _).alloc (by simp) _).alloc (by simp; omega) _)
  have HBW : Hid (Box W w.heap.size) := Lib.hid (by
    rw [hW]
    constructor
    · have := Blk.new ((w.alloc (.cells (stepCells x L) 69)).alloc (.cells zeroSaid 41)) 41 zeroSaid
      simpa using this
    · have := Blk.new (w.alloc (.cells (stepCells x L) 69)) 41 zeroSaid
      have := this.alloc (.cells zeroSaid 41)
      simpa using this)
  have HXW : Hid (Blk W w.heap.size 69 (stepCells x L)) := Lib.hid (by rw [hW]; exact ((Blk.new _ _ _).alloc _).alloc _)
  have HWS : Hid (W.heap.size = w.heap.size + 3) := Lib.hid (by rw [hW]; simp)
  unfold stepCells zeroSaid at hW
  rw [hk] at hW
  unfold stepCells
  rw [hk]
  have HW := Lib.hid hW
  clear hk hx hd hF hS hX hE hT hY hW
  go_enter Try.func37, Try.ntmps37
  go_wp2_with (go_at_call 32; rw [← HW.out]; refine (wremove_any q p X S F x.name W HX.out.name (HD.out.below HWB.out) HOK.out HS.out).mono ?_; rintro e w2 ⟨rfl, hd2, ht2⟩; rw [← HE.out]; rw [← HT.out, ← HY.out] at hd2; have HBX := Lib.hid (HBW.out.touch ht2 HF.out); have HD2 := Lib.hid hd2; have HT2 := Lib.hid ht2; clear hd2 ht2; have b0 : w2.cell? ⟨w.heap.size + 1 + 1, 0, none⟩ = some (.int .i64 0) := HBX.out.s.cell 0; have b1 : w2.cell? ⟨w.heap.size + 1 + 1, 1, none⟩ = some (.slice none 0 0) := HBX.out.s.cell 1; have b2 : w2.cell? ⟨w.heap.size + 1 + 1, 2, none⟩ = some (.slice none 0 0) := HBX.out.s.cell 2; have b3 : w2.cell? ⟨w.heap.size + 1 + 1, 3, none⟩ = some (.slice none 0 0) := HBX.out.s.cell 3; have b4 : w2.cell? ⟨w.heap.size + 1 + 1, 4, none⟩ = some (.int .i64 0) := HBX.out.s.cell 4; have b5 : w2.cell? ⟨w.heap.size + 1 + 1, 5, none⟩ = some (.bool false) := HBX.out.s.cell 5; have bf : ∀ i, w2.frozen? ⟨w.heap.size + 1 + 1, i, none⟩ = false := HBX.out.s.frozen; have r0 : w2.cell? ⟨w.heap.size + 1, 0, none⟩ = some (.int .i64 0) := HBX.out.r.cell 0; have r1 : w2.cell? ⟨w.heap.size + 1, 1, none⟩ = some (.slice none 0 0) := HBX.out.r.cell 1; have r2 : w2.cell? ⟨w.heap.size + 1, 2, none⟩ = some (.slice none 0 0) := HBX.out.r.cell 2; have r3 : w2.cell? ⟨w.heap.size + 1, 3, none⟩ = some (.slice none 0 0) := HBX.out.r.cell 3; have r4 : w2.cell? ⟨w.heap.size + 1, 4, none⟩ = some (.int .i64 0) := HBX.out.r.cell 4; have r5 : w2.cell? ⟨w.heap.size + 1, 5, none⟩ = some (.bool false) := HBX.out.r.cell 5; have rf : ∀ i, w2.frozen? ⟨w.heap.size + 1, i, none⟩ = false := HBX.out.r.frozen)
  refine bodyPost_ret (v := .agg #[.int .i64 E, .slice none 0 0, .slice none 0 0, .slice none 0 0, .int .i64 0, .bool false]) (by simp only [results, Try.results37]; go_simp) rfl ?_
  refine ⟨_, rfl, Mid.code (fun b => Said.code_at _ b _) (frame_wd (G := fun k => k = w.heap.size + 1 ∨ k = w.heap.size + 1 + 1) HWB.out HD2.out HT2.out ?_ ?_ HF.out (fun k hk => by have := HWS.out; rcases hk with rfl | rfl <;> omega))⟩
  · exact (((((((Touch.refl _ _).set (Or.inr rfl) _).set (Or.inl rfl) _).set (Or.inl rfl) _).set (Or.inl rfl) _).set (Or.inl rfl) _).set (Or.inl rfl) _).set (Or.inl rfl) _
  · simp only [size_set]

set_option maxRecDepth 100000 in
set_option maxHeartbeats 1000000 in
theorem hurtS_syncDir (q p : Nat) (X : Wnd) (S : Drv) (F : Nat → Prop) (x : PStep) (L : SLay) (w : World) (hk : x.kind = 6) (hx : x.Fits) (hd : WD w q p X S F) (hF : ∀ k, F k → k < w.heap.size) (hX : X.Ok) (hS : S.Small) :
    Calls Try.prog 37 #[.pointer (some ⟨q, 0, none⟩), .agg (stepCells x L)] w fun e w' =>
      ∃ u, e = .returned u ∧ Mid w w' q p F u (.code (wcall X S false ((S.syncDir, 0))).2.2) (wcall X S false ((S.syncDir, 0))).1 (wcall X S false ((S.syncDir, 0))).2.1 := by
  have HOK := Lib.hid hX
  have HX := Lib.hid hx
  have HD := Lib.hid hd
  have HF := Lib.hid hF
  have HS := Lib.hid hS
  obtain ⟨E, hE⟩ : ∃ E, E = (wcall X S false ((S.syncDir, 0))).2.2 := ⟨_, rfl⟩
  have HE := Lib.hid hE
  rw [← HE.out]
  obtain ⟨T, hT⟩ : ∃ T, T = (wcall X S false ((S.syncDir, 0))).2.1 := ⟨_, rfl⟩
  have HT := Lib.hid hT
  rw [← HT.out]
  obtain ⟨Y, hY⟩ : ∃ Y, Y = (wcall X S false ((S.syncDir, 0))).1 := ⟨_, rfl⟩
  have HY := Lib.hid hY
  rw [← HY.out]
  obtain ⟨W, hW⟩ : ∃ W, W = ((w.alloc (.cells (stepCells x L) 69)).alloc (.cells zeroSaid 41)).alloc (.cells zeroSaid 41) := ⟨_, rfl⟩
  have HWB : Hid (Below w.heap.size w W) := Lib.hid (by rw [hW]; exact (((Below.refl _ w).alloc (Nat.le_refl _) _).alloc (by simp) _).alloc (by simp; omega) _)
  have HBW : Hid (Box W w.heap.size) := Lib.hid (by
    rw [hW]
    constructor
    · have := Blk.new ((w.alloc (.cells (stepCells x L) 69)).alloc (.cells zeroSaid 41)) 41 zeroSaid
      simpa using this
    · have := Blk.new (w.alloc (.cells (stepCells x L) 69)) 41 zeroSaid
      have := this.alloc (.cells zeroSaid 41)
      simpa using this)
  have HXW : Hid (Blk W w.heap.size 69 (stepCells x L)) := Lib.hid (by rw [hW]; exact ((Blk.new _ _ _).alloc _).alloc _)
  have HWS : Hid (W.heap.size = w.heap.size + 3) := Lib.hid (by rw [hW]; simp)
  unfold stepCells zeroSaid at hW
  rw [hk] at hW
  unfold stepCells
  rw [hk]
  have HW := Lib.hid hW
  clear hk hx hd hF hS hX hE hT hY hW
  go_enter Try.func37, Try.ntmps37
  go_wp2_with (go_at_call 33; rw [← HW.out]; refine (wsyncDir_any q p X S F W (HD.out.below HWB.out) HOK.out HS.out).mono ?_; rintro e w2 ⟨rfl, hd2, ht2⟩; rw [← HE.out]; rw [← HT.out, ← HY.out] at hd2; have HBX := Lib.hid (HBW.out.touch ht2 HF.out); have HD2 := Lib.hid hd2; have HT2 := Lib.hid ht2; clear hd2 ht2; have b0 : w2.cell? ⟨w.heap.size + 1 + 1, 0, none⟩ = some (.int .i64 0) := HBX.out.s.cell 0; have b1 : w2.cell? ⟨w.heap.size + 1 + 1, 1, none⟩ = some (.slice none 0 0) := HBX.out.s.cell 1; have b2 : w2.cell? ⟨w.heap.size + 1 + 1, 2, none⟩ = some (.slice none 0 0) := HBX.out.s.cell 2; have b3 : w2.cell? ⟨w.heap.size + 1 + 1, 3, none⟩ = some (.slice none 0 0) := HBX.out.s.cell 3; have b4 : w2.cell? ⟨w.heap.size + 1 + 1, 4, none⟩ = some (.int .i64 0) := HBX.out.s.cell 4; have b5 : w2.cell? ⟨w.heap.size + 1 + 1, 5, none⟩ = some (.bool false) := HBX.out.s.cell 5; have bf : ∀ i, w2.frozen? ⟨w.heap.size + 1 + 1, i, none⟩ = false := HBX.out.s.frozen; have r0 : w2.cell? ⟨w.heap.size + 1, 0, none⟩ = some (.int .i64 0) := HBX.out.r.cell 0; have r1 : w2.cell? ⟨w.heap.size + 1, 1, none⟩ = some (.slice none 0 0) := HBX.out.r.cell 1; have r2 : w2.cell? ⟨w.heap.size + 1, 2, none⟩ = some (.slice none 0 0) := HBX.out.r.cell 2; have r3 : w2.cell? ⟨w.heap.size + 1, 3, none⟩ = some (.slice none 0 0) := HBX.out.r.cell 3; have r4 : w2.cell? ⟨w.heap.size + 1, 4, none⟩ = some (.int .i64 0) := HBX.out.r.cell 4; have r5 : w2.cell? ⟨w.heap.size + 1, 5, none⟩ = some (.bool false) := HBX.out.r.cell 5; have rf : ∀ i, w2.frozen? ⟨w.heap.size + 1, i, none⟩ = false := HBX.out.r.frozen)
  refine bodyPost_ret (v := .agg #[.int .i64 E, .slice none 0 0, .slice none 0 0, .slice none 0 0, .int .i64 0, .bool false]) (by simp only [results, Try.results37]; go_simp) rfl ?_
  refine ⟨_, rfl, Mid.code (fun b => Said.code_at _ b _) (frame_wd (G := fun k => k = w.heap.size + 1 ∨ k = w.heap.size + 1 + 1) HWB.out HD2.out HT2.out ?_ ?_ HF.out (fun k hk => by have := HWS.out; rcases hk with rfl | rfl <;> omega))⟩
  · exact (((((((Touch.refl _ _).set (Or.inr rfl) _).set (Or.inl rfl) _).set (Or.inl rfl) _).set (Or.inl rfl) _).set (Or.inl rfl) _).set (Or.inl rfl) _).set (Or.inl rfl) _
  · simp only [size_set]

set_option maxRecDepth 100000 in
set_option maxHeartbeats 1000000 in
theorem hurtS_read (q p : Nat) (X : Wnd) (S : Drv) (F : Nat → Prop) (x : PStep) (L : SLay) (w : World) (hk : x.kind = 7) (hx : x.Fits) (hd : WD w q p X S F) (hF : ∀ k, F k → k < w.heap.size) (hX : X.Ok) (hS : S.Small) :
    Calls Try.prog 37 #[.pointer (some ⟨q, 0, none⟩), .agg (stepCells x L)] w fun e w' =>
      ∃ u, e = .returned u ∧ Mid w w' q p F u ({ Said.none_ with data := (wread X (S.read x.nm)).2.1, e := (wread X (S.read x.nm)).2.2 } : Said) (wread X (S.read x.nm)).1 S := by
  have HOK := Lib.hid hX
  have HX := Lib.hid hx
  have HD := Lib.hid hd
  have HF := Lib.hid hF
  have HS := Lib.hid hS
  obtain ⟨E, hE⟩ : ∃ E, E = (wread X (S.read x.nm)).2.2 := ⟨_, rfl⟩
  have HE := Lib.hid hE
  rw [← HE.out]
  obtain ⟨bs, hbs⟩ : ∃ bs, bs = (wread X (S.read x.nm)).2.1 := ⟨_, rfl⟩
  have HBS := Lib.hid hbs
  rw [← HBS.out]
  obtain ⟨Y, hY⟩ : ∃ Y, Y = (wread X (S.read x.nm)).1 := ⟨_, rfl⟩
  have HY := Lib.hid hY
  rw [← HY.out]
  obtain ⟨m, hm⟩ : ∃ m, m = bs.length := ⟨_, rfl⟩
  have HM := Lib.hid hm
  obtain ⟨W, hW⟩ : ∃ W, W = ((w.alloc (.cells (stepCells x L) 69)).alloc (.cells zeroSaid 41)).alloc (.cells zeroSaid 41) := ⟨_, rfl⟩
  have HWB : Hid (Below w.heap.size w W) := Lib.hid (by rw [hW]; exact (((Below.refl _ w).alloc (Nat.le_refl _) _).alloc (by simp) _).alloc (by simp; omega) _)
  have HBW : Hid (Box W w.heap.size) := Lib.hid (by
    rw [hW]
    constructor
    · have := Blk.new ((w.alloc (.cells (stepCells x L) 69)).alloc (.cells zeroSaid 41)) 41 zeroSaid
      simpa using this
    · have := Blk.new (w.alloc (.cells (stepCells x L) 69)) 41 zeroSaid
      have := this.alloc (.cells zeroSaid 41)
      simpa using this)
  have HXW : Hid (Blk W w.heap.size 69 (stepCells x L)) := Lib.hid (by rw [hW]; exact ((Blk.new _ _ _).alloc _).alloc _)
  have HWS : Hid (W.heap.size = w.heap.size + 3) := Lib.hid (by rw [hW]; simp)
  unfold stepCells zeroSaid at hW
  rw [hk] at hW
  unfold stepCells
  rw [hk]
  have HW := Lib.hid hW
  clear hk hx hd hF hS hX hE hbs hY hm hW
  go_enter Try.func37, Try.ntmps37
  go_wp2_with (go_at_call 17; rw [← HW.out]; refine (wread_any q p X S F x.name W HX.out.name (HD.out.below HWB.out) HOK.out HS.out).mono ?_; rintro e w2 ⟨v, rfl, ho, hd2, ht2⟩; rw [← HE.out]; rw [← HBS.out, ← HM.out] at ho; rw [← HY.out] at hd2; obtain ⟨a, c, rfl, _⟩ := own_shape ho; have HO := Lib.hid ho; have HBX := Lib.hid (HBW.out.touch ht2 HF.out); have HD2 : Hid (WD w2 q p Y S F) := Lib.hid hd2; have HT2 := Lib.hid ht2; clear ho hd2 ht2; have b0 : w2.cell? ⟨w.heap.size + 1 + 1, 0, none⟩ = some (.int .i64 0) := HBX.out.s.cell 0; have b1 : w2.cell? ⟨w.heap.size + 1 + 1, 1, none⟩ = some (.slice none 0 0) := HBX.out.s.cell 1; have b2 : w2.cell? ⟨w.heap.size + 1 + 1, 2, none⟩ = some (.slice none 0 0) := HBX.out.s.cell 2; have b3 : w2.cell? ⟨w.heap.size + 1 + 1, 3, none⟩ = some (.slice none 0 0) := HBX.out.s.cell 3; have b4 : w2.cell? ⟨w.heap.size + 1 + 1, 4, none⟩ = some (.int .i64 0) := HBX.out.s.cell 4; have b5 : w2.cell? ⟨w.heap.size + 1 + 1, 5, none⟩ = some (.bool false) := HBX.out.s.cell 5; have bf : ∀ i, w2.frozen? ⟨w.heap.size + 1 + 1, i, none⟩ = false := HBX.out.s.frozen; have r0 : w2.cell? ⟨w.heap.size + 1, 0, none⟩ = some (.int .i64 0) := HBX.out.r.cell 0; have r1 : w2.cell? ⟨w.heap.size + 1, 1, none⟩ = some (.slice none 0 0) := HBX.out.r.cell 1; have r2 : w2.cell? ⟨w.heap.size + 1, 2, none⟩ = some (.slice none 0 0) := HBX.out.r.cell 2; have r3 : w2.cell? ⟨w.heap.size + 1, 3, none⟩ = some (.slice none 0 0) := HBX.out.r.cell 3; have r4 : w2.cell? ⟨w.heap.size + 1, 4, none⟩ = some (.int .i64 0) := HBX.out.r.cell 4; have r5 : w2.cell? ⟨w.heap.size + 1, 5, none⟩ = some (.bool false) := HBX.out.r.cell 5; have rf : ∀ i, w2.frozen? ⟨w.heap.size + 1, i, none⟩ = false := HBX.out.r.frozen)
  refine bodyPost_ret (v := .agg #[.int .i64 E, .slice a m c, .slice none 0 0, .slice none 0 0, .int .i64 0, .bool false]) (by simp only [results, Try.results37]; go_simp) rfl ?_
  have GB : ∀ k, (k = w.heap.size + 1 ∨ k = w.heap.size + 1 + 1) → k < W.heap.size := fun k hk => by have := HWS.out; rcases hk with rfl | rfl <;> omega
  exact ⟨_, rfl, Mid.read (⟨_, _, _, rfl, by show World.ownsRow _ _ _ _ _ bs.length _; rw [← HM.out]; exact ownsRow_base_a (row_touch (G := fun k => k = w.heap.size + 1 ∨ k = w.heap.size + 1 + 1) HO.out (by exact ((((((((Touch.refl _ _).set (Or.inr rfl) _).set (Or.inr rfl) _).set (Or.inl rfl) _).set (Or.inl rfl) _).set (Or.inl rfl) _).set (Or.inl rfl) _).set (Or.inl rfl) _).set (Or.inl rfl) _) GB) HWB.out.size, World.ownsRow_nil _ _ _ _, FilesAt.nil _ _⟩) (frame_rd (G := fun k => k = w.heap.size + 1 ∨ k = w.heap.size + 1 + 1) HWB.out HD2.out HT2.out (by exact ((((((((Touch.refl _ _).set (Or.inr rfl) _).set (Or.inr rfl) _).set (Or.inl rfl) _).set (Or.inl rfl) _).set (Or.inl rfl) _).set (Or.inl rfl) _).set (Or.inl rfl) _).set (Or.inl rfl) _) (by simp only [size_set]) HF.out (fun k hk => by have := HWS.out; rcases hk with rfl | rfl <;> omega)) HF.out⟩

set_option maxRecDepth 100000 in
set_option maxHeartbeats 1000000 in
theorem hurtS_list (q p : Nat) (X : Wnd) (S : Drv) (F : Nat → Prop) (x : PStep) (L : SLay) (w : World) (hk : x.kind = 8) (hx : x.Fits) (hd : WD w q p X S F) (hF : ∀ k, F k → k < w.heap.size) (hX : X.Ok) (hS : S.Small) :
    Calls Try.prog 37 #[.pointer (some ⟨q, 0, none⟩), .agg (stepCells x L)] w fun e w' =>
      ∃ u, e = .returned u ∧ Mid w w' q p F u ({ Said.none_ with names := (wread X ((dnames S.now, (0 : Int)))).2.1, e := (wread X ((dnames S.now, (0 : Int)))).2.2 } : Said) (wread X ((dnames S.now, (0 : Int)))).1 S := by
  have HOK := Lib.hid hX
  have HX := Lib.hid hx
  have HD := Lib.hid hd
  have HF := Lib.hid hF
  have HS := Lib.hid hS
  obtain ⟨E, hE⟩ : ∃ E, E = (wread X ((dnames S.now, (0 : Int)))).2.2 := ⟨_, rfl⟩
  have HE := Lib.hid hE
  rw [← HE.out]
  obtain ⟨bs, hbs⟩ : ∃ bs, bs = (wread X ((dnames S.now, (0 : Int)))).2.1 := ⟨_, rfl⟩
  have HBS := Lib.hid hbs
  rw [← HBS.out]
  obtain ⟨Y, hY⟩ : ∃ Y, Y = (wread X ((dnames S.now, (0 : Int)))).1 := ⟨_, rfl⟩
  have HY := Lib.hid hY
  rw [← HY.out]
  obtain ⟨m, hm⟩ : ∃ m, m = bs.length := ⟨_, rfl⟩
  have HM := Lib.hid hm
  obtain ⟨W, hW⟩ : ∃ W, W = ((w.alloc (.cells (stepCells x L) 69)).alloc (.cells zeroSaid 41)).alloc (.cells zeroSaid 41) := ⟨_, rfl⟩
  have HWB : Hid (Below w.heap.size w W) := Lib.hid (by rw [hW]; exact (((Below.refl _ w).alloc (Nat.le_refl _) _).alloc (by simp) _).alloc (by simp; omega) _)
  have HBW : Hid (Box W w.heap.size) := Lib.hid (by
    rw [hW]
    constructor
    · have := Blk.new ((w.alloc (.cells (stepCells x L) 69)).alloc (.cells zeroSaid 41)) 41 zeroSaid
      simpa using this
    · have := Blk.new (w.alloc (.cells (stepCells x L) 69)) 41 zeroSaid
      have := this.alloc (.cells zeroSaid 41)
      simpa using this)
  have HXW : Hid (Blk W w.heap.size 69 (stepCells x L)) := Lib.hid (by rw [hW]; exact ((Blk.new _ _ _).alloc _).alloc _)
  have HWS : Hid (W.heap.size = w.heap.size + 3) := Lib.hid (by rw [hW]; simp)
  unfold stepCells zeroSaid at hW
  rw [hk] at hW
  unfold stepCells
  rw [hk]
  have HW := Lib.hid hW
  clear hk hx hd hF hS hX hE hbs hY hm hW
  go_enter Try.func37, Try.ntmps37
  go_wp2_with (go_at_call 19; rw [← HW.out]; refine (wlist_any q p X S F W (by have := HS.out.now; omega) (HD.out.below HWB.out) HOK.out HS.out).mono ?_; rintro e w2 ⟨v, rfl, ho, hd2, ht2⟩; rw [← HE.out]; rw [← HBS.out, ← HM.out] at ho; rw [← HY.out] at hd2; obtain ⟨a, c, rfl, _⟩ := own_shape ho; have HO := Lib.hid ho; have HBX := Lib.hid (HBW.out.touch ht2 HF.out); have HD2 : Hid (WD w2 q p Y S F) := Lib.hid hd2; have HT2 := Lib.hid ht2; clear ho hd2 ht2; have b0 : w2.cell? ⟨w.heap.size + 1 + 1, 0, none⟩ = some (.int .i64 0) := HBX.out.s.cell 0; have b1 : w2.cell? ⟨w.heap.size + 1 + 1, 1, none⟩ = some (.slice none 0 0) := HBX.out.s.cell 1; have b2 : w2.cell? ⟨w.heap.size + 1 + 1, 2, none⟩ = some (.slice none 0 0) := HBX.out.s.cell 2; have b3 : w2.cell? ⟨w.heap.size + 1 + 1, 3, none⟩ = some (.slice none 0 0) := HBX.out.s.cell 3; have b4 : w2.cell? ⟨w.heap.size + 1 + 1, 4, none⟩ = some (.int .i64 0) := HBX.out.s.cell 4; have b5 : w2.cell? ⟨w.heap.size + 1 + 1, 5, none⟩ = some (.bool false) := HBX.out.s.cell 5; have bf : ∀ i, w2.frozen? ⟨w.heap.size + 1 + 1, i, none⟩ = false := HBX.out.s.frozen; have r0 : w2.cell? ⟨w.heap.size + 1, 0, none⟩ = some (.int .i64 0) := HBX.out.r.cell 0; have r1 : w2.cell? ⟨w.heap.size + 1, 1, none⟩ = some (.slice none 0 0) := HBX.out.r.cell 1; have r2 : w2.cell? ⟨w.heap.size + 1, 2, none⟩ = some (.slice none 0 0) := HBX.out.r.cell 2; have r3 : w2.cell? ⟨w.heap.size + 1, 3, none⟩ = some (.slice none 0 0) := HBX.out.r.cell 3; have r4 : w2.cell? ⟨w.heap.size + 1, 4, none⟩ = some (.int .i64 0) := HBX.out.r.cell 4; have r5 : w2.cell? ⟨w.heap.size + 1, 5, none⟩ = some (.bool false) := HBX.out.r.cell 5; have rf : ∀ i, w2.frozen? ⟨w.heap.size + 1, i, none⟩ = false := HBX.out.r.frozen)
  refine bodyPost_ret (v := .agg #[.int .i64 E, .slice none 0 0, .slice a m c, .slice none 0 0, .int .i64 0, .bool false]) (by simp only [results, Try.results37]; go_simp) rfl ?_
  have GB : ∀ k, (k = w.heap.size + 1 ∨ k = w.heap.size + 1 + 1) → k < W.heap.size := fun k hk => by have := HWS.out; rcases hk with rfl | rfl <;> omega
  exact ⟨_, rfl, Mid.read (⟨_, _, _, rfl, World.ownsRow_nil _ _ _ _, by show World.ownsRow _ _ _ _ _ bs.length _; rw [← HM.out]; exact ownsRow_base_a (row_touch (G := fun k => k = w.heap.size + 1 ∨ k = w.heap.size + 1 + 1) HO.out (by exact ((((((((Touch.refl _ _).set (Or.inr rfl) _).set (Or.inr rfl) _).set (Or.inl rfl) _).set (Or.inl rfl) _).set (Or.inl rfl) _).set (Or.inl rfl) _).set (Or.inl rfl) _).set (Or.inl rfl) _) GB) HWB.out.size, FilesAt.nil _ _⟩) (frame_rd (G := fun k => k = w.heap.size + 1 ∨ k = w.heap.size + 1 + 1) HWB.out HD2.out HT2.out (by exact ((((((((Touch.refl _ _).set (Or.inr rfl) _).set (Or.inr rfl) _).set (Or.inl rfl) _).set (Or.inl rfl) _).set (Or.inl rfl) _).set (Or.inl rfl) _).set (Or.inl rfl) _).set (Or.inl rfl) _) (by simp only [size_set]) HF.out (fun k hk => by have := HWS.out; rcases hk with rfl | rfl <;> omega)) HF.out⟩

set_option maxRecDepth 100000 in
set_option maxHeartbeats 1000000 in
theorem hurtS_append (q p : Nat) (X : Wnd) (S : Drv) (F : Nat → Prop) (x : PStep) (L : SLay) (w : World) (hk : x.kind = 2) (hx : x.Fits) (hd : WD w q p X S F) (hF : ∀ k, F k → k < w.heap.size) (hX : X.Ok) (hS : S.Small) (B : Nat) (hB : B ≤ w.heap.size) (hxa : StepAt w B L x) :
    Calls Try.prog 37 #[.pointer (some ⟨q, 0, none⟩), .agg (stepCells x L)] w fun e w' =>
      ∃ u, e = .returned u ∧ Mid w w' q p F u (.code (wappend X S x.nm x.data).2.2) (wappend X S x.nm x.data).1 (wappend X S x.nm x.data).2.1 := by
  have HOK := Lib.hid hX
  have HX := Lib.hid hx
  have HD := Lib.hid hd
  have HF := Lib.hid hF
  have HS := Lib.hid hS
  obtain ⟨E, hE⟩ : ∃ E, E = (wappend X S x.nm x.data).2.2 := ⟨_, rfl⟩
  have HE := Lib.hid hE
  rw [← HE.out]
  obtain ⟨T, hT⟩ : ∃ T, T = (wappend X S x.nm x.data).2.1 := ⟨_, rfl⟩
  have HT := Lib.hid hT
  rw [← HT.out]
  obtain ⟨Y, hY⟩ : ∃ Y, Y = (wappend X S x.nm x.data).1 := ⟨_, rfl⟩
  have HY := Lib.hid hY
  rw [← HY.out]
  have HXA := Lib.hid hxa
  obtain ⟨m, hm⟩ : ∃ m, m = x.data.length := ⟨_, rfl⟩
  have HM := Lib.hid hm
  obtain ⟨W, hW⟩ : ∃ W, W = ((w.alloc (.cells (stepCells x L) 69)).alloc (.cells zeroSaid 41)).alloc (.cells zeroSaid 41) := ⟨_, rfl⟩
  have HWB : Hid (Below w.heap.size w W) := Lib.hid (by rw [hW]; exact (((Below.refl _ w).alloc (Nat.le_refl _) _).alloc (by simp) _).alloc (by simp; omega) _)
  have HBW : Hid (Box W w.heap.size) := Lib.hid (by
    rw [hW]
    constructor
    · have := Blk.new ((w.alloc (.cells (stepCells x L) 69)).alloc (.cells zeroSaid 41)) 41 zeroSaid
      simpa using this
    · have := Blk.new (w.alloc (.cells (stepCells x L) 69)) 41 zeroSaid
      have := this.alloc (.cells zeroSaid 41)
      simpa using this)
  have HXW : Hid (Blk W w.heap.size 69 (stepCells x L)) := Lib.hid (by rw [hW]; exact ((Blk.new _ _ _).alloc _).alloc _)
  have HWS : Hid (W.heap.size = w.heap.size + 3) := Lib.hid (by rw [hW]; simp)
  unfold stepCells zeroSaid at hW
  rw [hk] at hW
  unfold stepCells
  rw [hk]
  have HW := Lib.hid hW
  rw [← HM.out] at HW
  rw [← HM.out]
  clear hk hx hd hF hS hX hE hT hY hm hxa hW
  go_enter Try.func37, Try.ntmps37
  go_wp2_with fail
  go_region_held3 (fun w' => w'.cell? ⟨w.heap.size, 1, none⟩ = some (.string x.name) ∧ w'.cell? ⟨w.heap.size, 3, none⟩ = some (.slice L.pd m L.cd))
    (first | go_keep | (go_split_ands; refine ⟨?_, ?_⟩ <;> (rw [World.cell?_setCell_other _ _ _ _ (by simp)]; assumption)))
    (first
      | (go_at_call 18; rw [← HW.out]; refine (twin_any L.pd m L.cd x.data W.drew B (by rw [HM.out]; exact (HXA.out.data.below (HWB.out.mono hB)).drew) (by rw [HM.out]; exact HX.out.data)).mono ?_; rintro e w1 ⟨v, rfl, ho, hb⟩; have hb' : Below W.heap.size W w1 := below_of_drew hb; obtain ⟨a1, c1, rfl, hc1⟩ := own_shape ho; have k1 : w1.cell? ⟨w.heap.size, 1, none⟩ = some (.string x.name) := (hb'.cell HXW.out.lt).trans (HXW.out.cell 1); have k3 : w1.cell? ⟨w.heap.size, 3, none⟩ = some (.slice L.pd m L.cd) := (by rw [HM.out]; exact (hb'.cell HXW.out.lt).trans (HXW.out.cell 3)); have HBX1 := Lib.hid (HBW.out.below hb'); have HO1 : Hid (w1.ownsRow W.heap.size 5 1 (.slice a1 m c1) m (x.data.map B8)) := Lib.hid ho; have HB1 := Lib.hid hb'; clear ho hb hb')
      | (go_at_call 15; rw [HM.out]; refine (wappend_any q p X S F x.name w1 HX.out.name a1 c1 x.data (by rw [← HM.out]; exact Reads.of_own HO1.out) (fun ad e hf => by subst e; have h1 := own_lo HO1.out; have h2 := HF.out _ hf; have h3 := HWB.out.size; omega) (by rw [← HM.out]; exact hc1) HX.out.data ((HD.out.below HWB.out).below HB1.out) HOK.out HS.out).mono ?_; rintro e w2 ⟨rfl, hd2, ht2⟩; rw [← HE.out]; rw [← HT.out, ← HY.out] at hd2; have k1 : w2.cell? ⟨w.heap.size, 1, none⟩ = some (.string x.name) := World.cell?_of_block (ht2.block _ (Nat.lt_of_lt_of_le HXW.out.lt HB1.out.size) (fun hf => absurd (HF.out _ hf) (Nat.lt_irrefl _))) |>.trans k1; have k3 : w2.cell? ⟨w.heap.size, 3, none⟩ = some (.slice L.pd m L.cd) := World.cell?_of_block (ht2.block _ (Nat.lt_of_lt_of_le HXW.out.lt HB1.out.size) (fun hf => absurd (HF.out _ hf) (Nat.lt_irrefl _))) |>.trans k3; have HBX := Lib.hid (HBX1.out.touch ht2 HF.out); have HD2 := Lib.hid hd2; have HT2 := Lib.hid ht2; clear hd2 ht2; have b0 : w2.cell? ⟨w.heap.size + 1 + 1, 0, none⟩ = some (.int .i64 0) := HBX.out.s.cell 0; have b1 : w2.cell? ⟨w.heap.size + 1 + 1, 1, none⟩ = some (.slice none 0 0) := HBX.out.s.cell 1; have b2 : w2.cell? ⟨w.heap.size + 1 + 1, 2, none⟩ = some (.slice none 0 0) := HBX.out.s.cell 2; have b3 : w2.cell? ⟨w.heap.size + 1 + 1, 3, none⟩ = some (.slice none 0 0) := HBX.out.s.cell 3; have b4 : w2.cell? ⟨w.heap.size + 1 + 1, 4, none⟩ = some (.int .i64 0) := HBX.out.s.cell 4; have b5 : w2.cell? ⟨w.heap.size + 1 + 1, 5, none⟩ = some (.bool false) := HBX.out.s.cell 5; have bf : ∀ i, w2.frozen? ⟨w.heap.size + 1 + 1, i, none⟩ = false := HBX.out.s.frozen; have r0 : w2.cell? ⟨w.heap.size + 1, 0, none⟩ = some (.int .i64 0) := HBX.out.r.cell 0; have r1 : w2.cell? ⟨w.heap.size + 1, 1, none⟩ = some (.slice none 0 0) := HBX.out.r.cell 1; have r2 : w2.cell? ⟨w.heap.size + 1, 2, none⟩ = some (.slice none 0 0) := HBX.out.r.cell 2; have r3 : w2.cell? ⟨w.heap.size + 1, 3, none⟩ = some (.slice none 0 0) := HBX.out.r.cell 3; have r4 : w2.cell? ⟨w.heap.size + 1, 4, none⟩ = some (.int .i64 0) := HBX.out.r.cell 4; have r5 : w2.cell? ⟨w.heap.size + 1, 5, none⟩ = some (.bool false) := HBX.out.r.cell 5; have rf : ∀ i, w2.frozen? ⟨w.heap.size + 1, i, none⟩ = false := HBX.out.r.frozen))
  go_wp2
  refine bodyPost_ret (v := .agg #[.int .i64 E, .slice none 0 0, .slice none 0 0, .slice none 0 0, .int .i64 0, .bool false]) (by simp only [results, Try.results37]; go_simp) rfl ?_
  refine ⟨_, rfl, Mid.code (fun b => Said.code_at _ b _) (frame_wd (G := fun k => k = w.heap.size + 1 ∨ k = w.heap.size + 1 + 1) (HWB.out.trans (HB1.out.mono HWB.out.size)) HD2.out HT2.out ?_ ?_ HF.out (fun k hk => by have := HWS.out; have := HB1.out.size; rcases hk with rfl | rfl <;> omega))⟩
  · exact (((((((Touch.refl _ _).set (Or.inr rfl) _).set (Or.inl rfl) _).set (Or.inl rfl) _).set (Or.inl rfl) _).set (Or.inl rfl) _).set (Or.inl rfl) _).set (Or.inl rfl) _
  · simp only [size_set]
end Go.Proofs.Ytdmcjomcbhdcbaa
namespace Go.Proofs.Ytdmcjomcbhdcbaa
open Go.RowKit Go.Maps

set_option maxRecDepth 100000 in
set_option maxHeartbeats 1000000 in
theorem promotedS_wipe (q p : Nat) (X : Wnd) (S : Drv) (F : Nat → Prop) (x : PStep) (L : SLay) (w : World) (hk : x.kind = 25) (hx : x.Fits) (hd : WD w q p X S F) (hF : ∀ k, F k → k < w.heap.size) (hS : S.Small) :
    Calls Try.prog 65 #[.pointer (some ⟨q, 0, none⟩), .agg (stepCells x L)] w fun e w' =>
      ∃ u, e = .returned u ∧ Mid w w' q p F u (.code (((Drv.new S.room, (0 : Int)) : Drv × Int)).2) X (((Drv.new S.room, (0 : Int)) : Drv × Int)).1 := by
  have HX := Lib.hid hx
  have kq : w.cell? ⟨q, 0, none⟩ = some (.pointer (some ⟨p, 0, none⟩)) := head_cell hd.wn
  have kql : q < w.heap.size := World.block_lt_of_cell? w _ kq
  have HD := Lib.hid hd
  have HF := Lib.hid hF
  have HS := Lib.hid hS
  obtain ⟨E, hE⟩ : ∃ E, E = (((Drv.new S.room, (0 : Int)) : Drv × Int)).2 := ⟨_, rfl⟩
  have HE := Lib.hid hE
  rw [← HE.out]
  obtain ⟨T, hT⟩ : ∃ T, T = (((Drv.new S.room, (0 : Int)) : Drv × Int)).1 := ⟨_, rfl⟩
  have HT := Lib.hid hT
  rw [← HT.out]
  obtain ⟨W, hW⟩ : ∃ W, W = ((w.alloc (.cells (stepCells x L) 69)).alloc (.cells zeroSaid 41)).alloc (.cells zeroSaid 41) := ⟨_, rfl⟩
  have HWB : Hid (Below w.heap.size w W) := Lib.hid (by rw [hW]; exact (((Below.refl _ w).alloc (Nat.le_refl _) _).alloc (by simp) _).alloc (by simp; omega) _)
  have HBW : Hid (Box W w.heap.size) := Lib.hid (by
    rw [hW]
    constructor
    · have := Blk.new ((w.alloc (.cells (stepCells x L) 69)).alloc (.cells zeroSaid 41)) 41 zeroSaid
      simpa using this
    · have := Blk.new (w.alloc (.cells (stepCells x L) 69)) 41 zeroSaid
      have := this.alloc (.cells zeroSaid 41)
      simpa using this)
  have HXW : Hid (Blk W w.heap.size 69 (stepCells x L)) := Lib.hid (by rw [hW]; exact ((Blk.new _ _ _).alloc _).alloc _)
  have HWS : Hid (W.heap.size = w.heap.size + 3) := Lib.hid (by rw [hW]; simp)
  unfold stepCells zeroSaid at hW
  rw [hk] at hW
  unfold stepCells
  rw [hk]
  have HW := Lib.hid hW
  have kqc : W.cell? ⟨q, 0, none⟩ = some (.pointer (some ⟨p, 0, none⟩)) := head_cell (HD.out.below HWB.out).wn
  rw [hW] at kqc
  clear hk hx hd hF hS hE hT hW
  go_enter Try.func65, Try.ntmps65
  go_wp2_with (go_at_call 69; rw [← HW.out]; refine (wd_lift (HD.out.below HWB.out) fun FD hd _ => wipe_any p S FD W hd (by have := HS.out.room; omega)).mono ?_; rintro e w2 ⟨rfl, hd2, ht2⟩; rw [← HE.out]; rw [← HT.out] at hd2; have HBX := Lib.hid (HBW.out.touch ht2 HF.out); have HD2 := Lib.hid hd2; have HT2 := Lib.hid ht2; clear hd2 ht2; have b0 : w2.cell? ⟨w.heap.size + 1 + 1, 0, none⟩ = some (.int .i64 0) := HBX.out.s.cell 0; have b1 : w2.cell? ⟨w.heap.size + 1 + 1, 1, none⟩ = some (.slice none 0 0) := HBX.out.s.cell 1; have b2 : w2.cell? ⟨w.heap.size + 1 + 1, 2, none⟩ = some (.slice none 0 0) := HBX.out.s.cell 2; have b3 : w2.cell? ⟨w.heap.size + 1 + 1, 3, none⟩ = some (.slice none 0 0) := HBX.out.s.cell 3; have b4 : w2.cell? ⟨w.heap.size + 1 + 1, 4, none⟩ = some (.int .i64 0) := HBX.out.s.cell 4; have b5 : w2.cell? ⟨w.heap.size + 1 + 1, 5, none⟩ = some (.bool false) := HBX.out.s.cell 5; have bf : ∀ i, w2.frozen? ⟨w.heap.size + 1 + 1, i, none⟩ = false := HBX.out.s.frozen; have r0 : w2.cell? ⟨w.heap.size + 1, 0, none⟩ = some (.int .i64 0) := HBX.out.r.cell 0; have r1 : w2.cell? ⟨w.heap.size + 1, 1, none⟩ = some (.slice none 0 0) := HBX.out.r.cell 1; have r2 : w2.cell? ⟨w.heap.size + 1, 2, none⟩ = some (.slice none 0 0) := HBX.out.r.cell 2; have r3 : w2.cell? ⟨w.heap.size + 1, 3, none⟩ = some (.slice none 0 0) := HBX.out.r.cell 3; have r4 : w2.cell? ⟨w.heap.size + 1, 4, none⟩ = some (.int .i64 0) := HBX.out.r.cell 4; have r5 : w2.cell? ⟨w.heap.size + 1, 5, none⟩ = some (.bool false) := HBX.out.r.cell 5; have rf : ∀ i, w2.frozen? ⟨w.heap.size + 1, i, none⟩ = false := HBX.out.r.frozen)
  refine bodyPost_ret (v := .agg #[.int .i64 E, .slice none 0 0, .slice none 0 0, .slice none 0 0, .int .i64 0, .bool false]) (by simp only [results, Try.results65]; go_simp) rfl ?_
  refine ⟨_, rfl, Mid.code (fun b => Said.code_at _ b _) (frame_wd (G := fun k => k = w.heap.size + 1 ∨ k = w.heap.size + 1 + 1) HWB.out HD2.out HT2.out ?_ ?_ HF.out (fun k hk => by have := HWS.out; rcases hk with rfl | rfl <;> omega))⟩
  · exact (((((((Touch.refl _ _).set (Or.inr rfl) _).set (Or.inl rfl) _).set (Or.inl rfl) _).set (Or.inl rfl) _).set (Or.inl rfl) _).set (Or.inl rfl) _).set (Or.inl rfl) _
  · simp only [size_set]

set_option maxRecDepth 100000 in
set_option maxHeartbeats 1000000 in
theorem promotedS_used (q p : Nat) (X : Wnd) (S : Drv) (F : Nat → Prop) (x : PStep) (L : SLay) (w : World) (hk : x.kind = 17) (hx : x.Fits) (hd : WD w q p X S F) (hF : ∀ k, F k → k < w.heap.size) (hS : S.Small) :
    Calls Try.prog 65 #[.pointer (some ⟨q, 0, none⟩), .agg (stepCells x L)] w fun e w' =>
      ∃ u, e = .returned u ∧ Mid w w' q p F u ({ Said.none_ with n := S.used } : Said) X S := by
  have HX := Lib.hid hx
  have kq : w.cell? ⟨q, 0, none⟩ = some (.pointer (some ⟨p, 0, none⟩)) := head_cell hd.wn
  have kql : q < w.heap.size := World.block_lt_of_cell? w _ kq
  have HD := Lib.hid hd
  have HF := Lib.hid hF
  have HS := Lib.hid hS
  obtain ⟨V, hV⟩ : ∃ V : Int, V = S.used := ⟨_, rfl⟩
  have HV := Lib.hid hV
  rw [← HV.out]
  obtain ⟨addr, hda⟩ := HD.out.dr
  have HDA := Lib.hid hda
  obtain ⟨W, hW⟩ : ∃ W, W = ((w.alloc (.cells (stepCells x L) 69)).alloc (.cells zeroSaid 41)).alloc (.cells zeroSaid 41) := ⟨_, rfl⟩
  have HWB : Hid (Below w.heap.size w W) := Lib.hid (by rw [hW]; exact (((Below.refl _ w).alloc (Nat.le_refl _) _).alloc (by simp) _).alloc (by simp; omega) _)
  have HBW : Hid (Box W w.heap.size) := Lib.hid (by
    rw [hW]
    constructor
    · have := Blk.new ((w.alloc (.cells (stepCells x L) 69)).alloc (.cells zeroSaid 41)) 41 zeroSaid
      simpa using this
    · have := Blk.new (w.alloc (.cells (stepCells x L) 69)) 41 zeroSaid
      have := this.alloc (.cells zeroSaid 41)
      simpa using this)
  have HXW : Hid (Blk W w.heap.size 69 (stepCells x L)) := Lib.hid (by rw [hW]; exact ((Blk.new _ _ _).alloc _).alloc _)
  have HWS : Hid (W.heap.size = w.heap.size + 3) := Lib.hid (by rw [hW]; simp)
  unfold stepCells zeroSaid at hW
  rw [hk] at hW
  unfold stepCells
  rw [hk]
  have HW := Lib.hid hW
  have kqc : W.cell? ⟨q, 0, none⟩ = some (.pointer (some ⟨p, 0, none⟩)) := head_cell (HD.out.below HWB.out).wn
  rw [hW] at kqc
  clear hk hx hd hF hS hV hda hW
  go_enter Try.func65, Try.ntmps65
  go_wp2_with (go_at_call 34; rw [← HW.out]; refine (used_any p S addr F W (HDA.out.keep (Touch.of_below (F := fun _ => False) HWB.out) fun _ _ h => h)).mono ?_; rintro e w2 ⟨rfl, hw2⟩; rw [← HV.out]; have HB : Hid (Below W.heap.size W w2) := Lib.hid (hw2 ▸ Below.refl _ _); have HBX := Lib.hid (HBW.out.below HB.out); clear hw2; have b0 : w2.cell? ⟨w.heap.size + 1 + 1, 0, none⟩ = some (.int .i64 0) := HBX.out.s.cell 0; have b1 : w2.cell? ⟨w.heap.size + 1 + 1, 1, none⟩ = some (.slice none 0 0) := HBX.out.s.cell 1; have b2 : w2.cell? ⟨w.heap.size + 1 + 1, 2, none⟩ = some (.slice none 0 0) := HBX.out.s.cell 2; have b3 : w2.cell? ⟨w.heap.size + 1 + 1, 3, none⟩ = some (.slice none 0 0) := HBX.out.s.cell 3; have b4 : w2.cell? ⟨w.heap.size + 1 + 1, 4, none⟩ = some (.int .i64 0) := HBX.out.s.cell 4; have b5 : w2.cell? ⟨w.heap.size + 1 + 1, 5, none⟩ = some (.bool false) := HBX.out.s.cell 5; have bf : ∀ i, w2.frozen? ⟨w.heap.size + 1 + 1, i, none⟩ = false := HBX.out.s.frozen; have r0 : w2.cell? ⟨w.heap.size + 1, 0, none⟩ = some (.int .i64 0) := HBX.out.r.cell 0; have r1 : w2.cell? ⟨w.heap.size + 1, 1, none⟩ = some (.slice none 0 0) := HBX.out.r.cell 1; have r2 : w2.cell? ⟨w.heap.size + 1, 2, none⟩ = some (.slice none 0 0) := HBX.out.r.cell 2; have r3 : w2.cell? ⟨w.heap.size + 1, 3, none⟩ = some (.slice none 0 0) := HBX.out.r.cell 3; have r4 : w2.cell? ⟨w.heap.size + 1, 4, none⟩ = some (.int .i64 0) := HBX.out.r.cell 4; have r5 : w2.cell? ⟨w.heap.size + 1, 5, none⟩ = some (.bool false) := HBX.out.r.cell 5; have rf : ∀ i, w2.frozen? ⟨w.heap.size + 1, i, none⟩ = false := HBX.out.r.frozen)
  refine bodyPost_ret (v := .agg #[.int .i64 0, .slice none 0 0, .slice none 0 0, .slice none 0 0, .int .i64 V, .bool false]) (by simp only [results, Try.results65]; go_simp) rfl ?_
  have GB : ∀ k, (k = w.heap.size + 1 ∨ k = w.heap.size + 1 + 1) → k < W.heap.size := fun k hk => by have := HWS.out; rcases hk with rfl | rfl <;> omega
  exact ⟨_, rfl, Mid.code (fun _ => ⟨_, _, _, rfl, World.ownsRow_nil _ _ _ _, World.ownsRow_nil _ _ _ _, FilesAt.nil _ _⟩) (frame_wd (G := fun k => k = w.heap.size + 1 ∨ k = w.heap.size + 1 + 1) HWB.out (wd_grow (HD.out.below HWB.out) HB.out |>.mono fun k h => h) (Touch.of_below HB.out) (by exact (((((((Touch.refl _ _).set (Or.inr rfl) _).set (Or.inl rfl) _).set (Or.inl rfl) _).set (Or.inl rfl) _).set (Or.inl rfl) _).set (Or.inl rfl) _).set (Or.inl rfl) _) (by simp only [size_set]) HF.out (fun k hk => by have := HWS.out; rcases hk with rfl | rfl <;> omega))⟩

set_option maxRecDepth 100000 in
set_option maxHeartbeats 1000000 in
theorem promotedS_pending (q p : Nat) (X : Wnd) (S : Drv) (F : Nat → Prop) (x : PStep) (L : SLay) (w : World) (hk : x.kind = 18) (hx : x.Fits) (hd : WD w q p X S F) (hF : ∀ k, F k → k < w.heap.size) (hS : S.Small) :
    Calls Try.prog 65 #[.pointer (some ⟨q, 0, none⟩), .agg (stepCells x L)] w fun e w' =>
      ∃ u, e = .returned u ∧ Mid w w' q p F u ({ Said.none_ with n := (S.pending.length : Int) } : Said) X S := by
  have HX := Lib.hid hx
  have kq : w.cell? ⟨q, 0, none⟩ = some (.pointer (some ⟨p, 0, none⟩)) := head_cell hd.wn
  have kql : q < w.heap.size := World.block_lt_of_cell? w _ kq
  have HD := Lib.hid hd
  have HF := Lib.hid hF
  have HS := Lib.hid hS
  obtain ⟨V, hV⟩ : ∃ V : Int, V = (S.pending.length : Int) := ⟨_, rfl⟩
  have HV := Lib.hid hV
  rw [← HV.out]
  obtain ⟨addr, hda⟩ := HD.out.dr
  have HDA := Lib.hid hda
  obtain ⟨W, hW⟩ : ∃ W, W = ((w.alloc (.cells (stepCells x L) 69)).alloc (.cells zeroSaid 41)).alloc (.cells zeroSaid 41) := ⟨_, rfl⟩
  have HWB : Hid (Below w.heap.size w W) := Lib.hid (by rw [hW]; exact (((Below.refl _ w).alloc (Nat.le_refl _) _).alloc (by simp) _).alloc (by simp; omega) _)
  have HBW : Hid (Box W w.heap.size) := Lib.hid (by
    rw [hW]
    constructor
    · have := Blk.new ((w.alloc (.cells (stepCells x L) 69)).alloc (.cells zeroSaid 41)) 41 zeroSaid
      simpa using this
    · have := Blk.new (w.alloc (.cells (stepCells x L) 69)) 41 zeroSaid
      have := this.alloc (.cells zeroSaid 41)
      simpa using this)
  have HXW : Hid (Blk W w.heap.size 69 (stepCells x L)) := Lib.hid (by rw [hW]; exact ((Blk.new _ _ _).alloc _).alloc _)
  have HWS : Hid (W.heap.size = w.heap.size + 3) := Lib.hid (by rw [hW]; simp)
  unfold stepCells zeroSaid at hW
  rw [hk] at hW
  unfold stepCells
  rw [hk]
  have HW := Lib.hid hW
  have kqc : W.cell? ⟨q, 0, none⟩ = some (.pointer (some ⟨p, 0, none⟩)) := head_cell (HD.out.below HWB.out).wn
  rw [hW] at kqc
  clear hk hx hd hF hS hV hda hW
  go_enter Try.func65, Try.ntmps65
  go_wp2_with (go_at_call 48; rw [← HW.out]; refine (pending_any p S addr F W (HDA.out.keep (Touch.of_below (F := fun _ => False) HWB.out) fun _ _ h => h)).mono ?_; rintro e w2 ⟨rfl, hw2⟩; rw [← HV.out]; have HB : Hid (Below W.heap.size W w2) := Lib.hid (hw2 ▸ Below.refl _ _); have HBX := Lib.hid (HBW.out.below HB.out); clear hw2; have b0 : w2.cell? ⟨w.heap.size + 1 + 1, 0, none⟩ = some (.int .i64 0) := HBX.out.s.cell 0; have b1 : w2.cell? ⟨w.heap.size + 1 + 1, 1, none⟩ = some (.slice none 0 0) := HBX.out.s.cell 1; have b2 : w2.cell? ⟨w.heap.size + 1 + 1, 2, none⟩ = some (.slice none 0 0) := HBX.out.s.cell 2; have b3 : w2.cell? ⟨w.heap.size + 1 + 1, 3, none⟩ = some (.slice none 0 0) := HBX.out.s.cell 3; have b4 : w2.cell? ⟨w.heap.size + 1 + 1, 4, none⟩ = some (.int .i64 0) := HBX.out.s.cell 4; have b5 : w2.cell? ⟨w.heap.size + 1 + 1, 5, none⟩ = some (.bool false) := HBX.out.s.cell 5; have bf : ∀ i, w2.frozen? ⟨w.heap.size + 1 + 1, i, none⟩ = false := HBX.out.s.frozen; have r0 : w2.cell? ⟨w.heap.size + 1, 0, none⟩ = some (.int .i64 0) := HBX.out.r.cell 0; have r1 : w2.cell? ⟨w.heap.size + 1, 1, none⟩ = some (.slice none 0 0) := HBX.out.r.cell 1; have r2 : w2.cell? ⟨w.heap.size + 1, 2, none⟩ = some (.slice none 0 0) := HBX.out.r.cell 2; have r3 : w2.cell? ⟨w.heap.size + 1, 3, none⟩ = some (.slice none 0 0) := HBX.out.r.cell 3; have r4 : w2.cell? ⟨w.heap.size + 1, 4, none⟩ = some (.int .i64 0) := HBX.out.r.cell 4; have r5 : w2.cell? ⟨w.heap.size + 1, 5, none⟩ = some (.bool false) := HBX.out.r.cell 5; have rf : ∀ i, w2.frozen? ⟨w.heap.size + 1, i, none⟩ = false := HBX.out.r.frozen)
  refine bodyPost_ret (v := .agg #[.int .i64 0, .slice none 0 0, .slice none 0 0, .slice none 0 0, .int .i64 V, .bool false]) (by simp only [results, Try.results65]; go_simp) rfl ?_
  have GB : ∀ k, (k = w.heap.size + 1 ∨ k = w.heap.size + 1 + 1) → k < W.heap.size := fun k hk => by have := HWS.out; rcases hk with rfl | rfl <;> omega
  exact ⟨_, rfl, Mid.code (fun _ => ⟨_, _, _, rfl, World.ownsRow_nil _ _ _ _, World.ownsRow_nil _ _ _ _, FilesAt.nil _ _⟩) (frame_wd (G := fun k => k = w.heap.size + 1 ∨ k = w.heap.size + 1 + 1) HWB.out (wd_grow (HD.out.below HWB.out) HB.out |>.mono fun k h => h) (Touch.of_below HB.out) (by exact (((((((Touch.refl _ _).set (Or.inr rfl) _).set (Or.inl rfl) _).set (Or.inl rfl) _).set (Or.inl rfl) _).set (Or.inl rfl) _).set (Or.inl rfl) _).set (Or.inl rfl) _) (by simp only [size_set]) HF.out (fun k hk => by have := HWS.out; rcases hk with rfl | rfl <;> omega))⟩

set_option maxRecDepth 100000 in
set_option maxHeartbeats 1000000 in
theorem promotedS_image (q p : Nat) (X : Wnd) (S : Drv) (F : Nat → Prop) (x : PStep) (L : SLay) (w : World) (hk : x.kind = 21) (hx : x.Fits) (hd : WD w q p X S F) (hF : ∀ k, F k → k < w.heap.size) (hS : S.Small) (N : Nat) (hI : S.Inv N) :
    Calls Try.prog 65 #[.pointer (some ⟨q, 0, none⟩), .agg (stepCells x L)] w fun e w' =>
      ∃ u, e = .returned u ∧ Mid w w' q p F u ({ Said.none_ with files := S.image } : Said) X S := by
  have HX := Lib.hid hx
  have kq : w.cell? ⟨q, 0, none⟩ = some (.pointer (some ⟨p, 0, none⟩)) := head_cell hd.wn
  have kql : q < w.heap.size := World.block_lt_of_cell? w _ kq
  have HD := Lib.hid hd
  have HF := Lib.hid hF
  have HS := Lib.hid hS
  obtain ⟨fs, hfs⟩ : ∃ fs, fs = S.image := ⟨_, rfl⟩
  have HFS := Lib.hid hfs
  rw [← HFS.out]
  obtain ⟨m, hm⟩ : ∃ m, m = fs.length := ⟨_, rfl⟩
  have HM := Lib.hid hm
  obtain ⟨addr, hda⟩ := HD.out.dr
  have HDA := Lib.hid hda
  have HI := Lib.hid hI
  obtain ⟨W, hW⟩ : ∃ W, W = ((w.alloc (.cells (stepCells x L) 69)).alloc (.cells zeroSaid 41)).alloc (.cells zeroSaid 41) := ⟨_, rfl⟩
  have HWB : Hid (Below w.heap.size w W) := Lib.hid (by rw [hW]; exact (((Below.refl _ w).alloc (Nat.le_refl _) _).alloc (by simp) _).alloc (by simp; omega) _)
  have HBW : Hid (Box W w.heap.size) := Lib.hid (by
    rw [hW]
    constructor
    · have := Blk.new ((w.alloc (.cells (stepCells x L) 69)).alloc (.cells zeroSaid 41)) 41 zeroSaid
      simpa using this
    · have := Blk.new (w.alloc (.cells (stepCells x L) 69)) 41 zeroSaid
      have := this.alloc (.cells zeroSaid 41)
      simpa using this)
  have HXW : Hid (Blk W w.heap.size 69 (stepCells x L)) := Lib.hid (by rw [hW]; exact ((Blk.new _ _ _).alloc _).alloc _)
  have HWS : Hid (W.heap.size = w.heap.size + 3) := Lib.hid (by rw [hW]; simp)
  unfold stepCells zeroSaid at hW
  rw [hk] at hW
  unfold stepCells
  rw [hk]
  have HW := Lib.hid hW
  have kqc : W.cell? ⟨q, 0, none⟩ = some (.pointer (some ⟨p, 0, none⟩)) := head_cell (HD.out.below HWB.out).wn
  rw [hW] at kqc
  clear hk hx hd hF hS hfs hm hda hI hW
  go_enter Try.func65, Try.ntmps65
  go_wp2_with (go_at_call 46; rw [← HW.out]; refine (image_any p S addr F W (HDA.out.keep (Touch.of_below (F := fun _ => False) HWB.out) fun _ _ h => h) HS.out HI.out.fnow).mono ?_; rintro e w2 ⟨v, rfl, ho, hb⟩; rw [← HFS.out] at ho; obtain ⟨a, c, rfl, _⟩ := ho.shape; rw [← HM.out]; have HO : Hid (FilesAt w2 W.heap.size (.slice a m c) fs) := Lib.hid (by rw [HM.out]; exact ho); have HB := Lib.hid hb; have HBX := Lib.hid (HBW.out.below hb); clear ho hb; have b0 : w2.cell? ⟨w.heap.size + 1 + 1, 0, none⟩ = some (.int .i64 0) := HBX.out.s.cell 0; have b1 : w2.cell? ⟨w.heap.size + 1 + 1, 1, none⟩ = some (.slice none 0 0) := HBX.out.s.cell 1; have b2 : w2.cell? ⟨w.heap.size + 1 + 1, 2, none⟩ = some (.slice none 0 0) := HBX.out.s.cell 2; have b3 : w2.cell? ⟨w.heap.size + 1 + 1, 3, none⟩ = some (.slice none 0 0) := HBX.out.s.cell 3; have b4 : w2.cell? ⟨w.heap.size + 1 + 1, 4, none⟩ = some (.int .i64 0) := HBX.out.s.cell 4; have b5 : w2.cell? ⟨w.heap.size + 1 + 1, 5, none⟩ = some (.bool false) := HBX.out.s.cell 5; have bf : ∀ i, w2.frozen? ⟨w.heap.size + 1 + 1, i, none⟩ = false := HBX.out.s.frozen; have r0 : w2.cell? ⟨w.heap.size + 1, 0, none⟩ = some (.int .i64 0) := HBX.out.r.cell 0; have r1 : w2.cell? ⟨w.heap.size + 1, 1, none⟩ = some (.slice none 0 0) := HBX.out.r.cell 1; have r2 : w2.cell? ⟨w.heap.size + 1, 2, none⟩ = some (.slice none 0 0) := HBX.out.r.cell 2; have r3 : w2.cell? ⟨w.heap.size + 1, 3, none⟩ = some (.slice none 0 0) := HBX.out.r.cell 3; have r4 : w2.cell? ⟨w.heap.size + 1, 4, none⟩ = some (.int .i64 0) := HBX.out.r.cell 4; have r5 : w2.cell? ⟨w.heap.size + 1, 5, none⟩ = some (.bool false) := HBX.out.r.cell 5; have rf : ∀ i, w2.frozen? ⟨w.heap.size + 1, i, none⟩ = false := HBX.out.r.frozen)
  refine bodyPost_ret (v := .agg #[.int .i64 0, .slice none 0 0, .slice none 0 0, .slice a m c, .int .i64 0, .bool false]) (by simp only [results, Try.results65]; go_simp) rfl ?_
  have GB : ∀ k, (k = w.heap.size + 1 ∨ k = w.heap.size + 1 + 1) → k < W.heap.size := fun k hk => by have := HWS.out; rcases hk with rfl | rfl <;> omega
  exact ⟨_, rfl, Mid.read (⟨_, _, _, rfl, World.ownsRow_nil _ _ _ _, World.ownsRow_nil _ _ _ _, FilesAt.base (FilesAt.touch (G := fun k => k = w.heap.size + 1 ∨ k = w.heap.size + 1 + 1) HO.out (by exact (((((((Touch.refl _ _).set (Or.inr rfl) _).set (Or.inl rfl) _).set (Or.inl rfl) _).set (Or.inl rfl) _).set (Or.inl rfl) _).set (Or.inl rfl) _).set (Or.inl rfl) _) GB) HWB.out.size⟩) (frame_rd (G := fun k => k = w.heap.size + 1 ∨ k = w.heap.size + 1 + 1) HWB.out ((HD.out.below HWB.out).below HB.out) (Touch.of_below HB.out) (by exact (((((((Touch.refl _ _).set (Or.inr rfl) _).set (Or.inl rfl) _).set (Or.inl rfl) _).set (Or.inl rfl) _).set (Or.inl rfl) _).set (Or.inl rfl) _).set (Or.inl rfl) _) (by simp only [size_set]) HF.out (fun k hk => by have := HWS.out; rcases hk with rfl | rfl <;> omega)) HF.out⟩

set_option maxRecDepth 100000 in
set_option maxHeartbeats 1000000 in
theorem promotedS_safe (q p : Nat) (X : Wnd) (S : Drv) (F : Nat → Prop) (x : PStep) (L : SLay) (w : World) (hk : x.kind = 22) (hx : x.Fits) (hd : WD w q p X S F) (hF : ∀ k, F k → k < w.heap.size) (hS : S.Small) (N : Nat) (hI : S.Inv N) :
    Calls Try.prog 65 #[.pointer (some ⟨q, 0, none⟩), .agg (stepCells x L)] w fun e w' =>
      ∃ u, e = .returned u ∧ Mid w w' q p F u ({ Said.none_ with files := S.safes } : Said) X S := by
  have HX := Lib.hid hx
  have kq : w.cell? ⟨q, 0, none⟩ = some (.pointer (some ⟨p, 0, none⟩)) := head_cell hd.wn
  have kql : q < w.heap.size := World.block_lt_of_cell? w _ kq
  have HD := Lib.hid hd
  have HF := Lib.hid hF
  have HS := Lib.hid hS
  obtain ⟨fs, hfs⟩ : ∃ fs, fs = S.safes := ⟨_, rfl⟩
  have HFS := Lib.hid hfs
  rw [← HFS.out]
  obtain ⟨m, hm⟩ : ∃ m, m = fs.length := ⟨_, rfl⟩
  have HM := Lib.hid hm
  obtain ⟨addr, hda⟩ := HD.out.dr
  have HDA := Lib.hid hda
  have HI := Lib.hid hI
  obtain ⟨W, hW⟩ : ∃ W, W = ((w.alloc (.cells (stepCells x L) 69)).alloc (.cells zeroSaid 41)).alloc (.cells zeroSaid 41) := ⟨_, rfl⟩
  have HWB : Hid (Below w.heap.size w W) := Lib.hid (by rw [hW]; exact (((Below.refl _ w).alloc (Nat.le_refl _) _).alloc (by simp) _).alloc (by simp; omega) _)
  have HBW : Hid (Box W w.heap.size) := Lib.hid (by
    rw [hW]
    constructor
    · have := Blk.new ((w.alloc (.cells (stepCells x L) 69)).alloc (.cells zeroSaid 41)) 41 zeroSaid
      simpa using this
    · have := Blk.new (w.alloc (.cells (stepCells x L) 69)) 41 zeroSaid
      have := this.alloc (.cells zeroSaid 41)
      simpa using this)
  have HXW : Hid (Blk W w.heap.size 69 (stepCells x L)) := Lib.hid (by rw [hW]; exact ((Blk.new _ _ _).alloc _).alloc _)
  have HWS : Hid (W.heap.size = w.heap.size + 3) := Lib.hid (by rw [hW]; simp)
  unfold stepCells zeroSaid at hW
  rw [hk] at hW
  unfold stepCells
  rw [hk]
  have HW := Lib.hid hW
  have kqc : W.cell? ⟨q, 0, none⟩ = some (.pointer (some ⟨p, 0, none⟩)) := head_cell (HD.out.below HWB.out).wn
  rw [hW] at kqc
  clear hk hx hd hF hS hfs hm hda hI hW
  go_enter Try.func65, Try.ntmps65
  go_wp2_with (go_at_call 47; rw [← HW.out]; refine (safe_any p S addr F W (HDA.out.keep (Touch.of_below (F := fun _ => False) HWB.out) fun _ _ h => h) HS.out HI.out.fkept HI.out.safe).mono ?_; rintro e w2 ⟨v, rfl, ho, hb⟩; rw [← HFS.out] at ho; obtain ⟨a, c, rfl, _⟩ := ho.shape; rw [← HM.out]; have HO : Hid (FilesAt w2 W.heap.size (.slice a m c) fs) := Lib.hid (by rw [HM.out]; exact ho); have HB := Lib.hid hb; have HBX := Lib.hid (HBW.out.below hb); clear ho hb; have b0 : w2.cell? ⟨w.heap.size + 1 + 1, 0, none⟩ = some (.int .i64 0) := HBX.out.s.cell 0; have b1 : w2.cell? ⟨w.heap.size + 1 + 1, 1, none⟩ = some (.slice none 0 0) := HBX.out.s.cell 1; have b2 : w2.cell? ⟨w.heap.size + 1 + 1, 2, none⟩ = some (.slice none 0 0) := HBX.out.s.cell 2; have b3 : w2.cell? ⟨w.heap.size + 1 + 1, 3, none⟩ = some (.slice none 0 0) := HBX.out.s.cell 3; have b4 : w2.cell? ⟨w.heap.size + 1 + 1, 4, none⟩ = some (.int .i64 0) := HBX.out.s.cell 4; have b5 : w2.cell? ⟨w.heap.size + 1 + 1, 5, none⟩ = some (.bool false) := HBX.out.s.cell 5; have bf : ∀ i, w2.frozen? ⟨w.heap.size + 1 + 1, i, none⟩ = false := HBX.out.s.frozen; have r0 : w2.cell? ⟨w.heap.size + 1, 0, none⟩ = some (.int .i64 0) := HBX.out.r.cell 0; have r1 : w2.cell? ⟨w.heap.size + 1, 1, none⟩ = some (.slice none 0 0) := HBX.out.r.cell 1; have r2 : w2.cell? ⟨w.heap.size + 1, 2, none⟩ = some (.slice none 0 0) := HBX.out.r.cell 2; have r3 : w2.cell? ⟨w.heap.size + 1, 3, none⟩ = some (.slice none 0 0) := HBX.out.r.cell 3; have r4 : w2.cell? ⟨w.heap.size + 1, 4, none⟩ = some (.int .i64 0) := HBX.out.r.cell 4; have r5 : w2.cell? ⟨w.heap.size + 1, 5, none⟩ = some (.bool false) := HBX.out.r.cell 5; have rf : ∀ i, w2.frozen? ⟨w.heap.size + 1, i, none⟩ = false := HBX.out.r.frozen)
  refine bodyPost_ret (v := .agg #[.int .i64 0, .slice none 0 0, .slice none 0 0, .slice a m c, .int .i64 0, .bool false]) (by simp only [results, Try.results65]; go_simp) rfl ?_
  have GB : ∀ k, (k = w.heap.size + 1 ∨ k = w.heap.size + 1 + 1) → k < W.heap.size := fun k hk => by have := HWS.out; rcases hk with rfl | rfl <;> omega
  exact ⟨_, rfl, Mid.read (⟨_, _, _, rfl, World.ownsRow_nil _ _ _ _, World.ownsRow_nil _ _ _ _, FilesAt.base (FilesAt.touch (G := fun k => k = w.heap.size + 1 ∨ k = w.heap.size + 1 + 1) HO.out (by exact (((((((Touch.refl _ _).set (Or.inr rfl) _).set (Or.inl rfl) _).set (Or.inl rfl) _).set (Or.inl rfl) _).set (Or.inl rfl) _).set (Or.inl rfl) _).set (Or.inl rfl) _) GB) HWB.out.size⟩) (frame_rd (G := fun k => k = w.heap.size + 1 ∨ k = w.heap.size + 1 + 1) HWB.out ((HD.out.below HWB.out).below HB.out) (Touch.of_below HB.out) (by exact (((((((Touch.refl _ _).set (Or.inr rfl) _).set (Or.inl rfl) _).set (Or.inl rfl) _).set (Or.inl rfl) _).set (Or.inl rfl) _).set (Or.inl rfl) _).set (Or.inl rfl) _) (by simp only [size_set]) HF.out (fun k hk => by have := HWS.out; rcases hk with rfl | rfl <;> omega)) HF.out⟩

set_option maxRecDepth 100000 in
set_option maxHeartbeats 1000000 in
theorem promotedS_flip (q p : Nat) (X : Wnd) (S : Drv) (F : Nat → Prop) (x : PStep) (L : SLay) (w : World) (hk : x.kind = 23) (hx : x.Fits) (hd : WD w q p X S F) (hF : ∀ k, F k → k < w.heap.size) (hS : S.Small) (B : Nat) (hB : B ≤ w.heap.size) (hxa : StepAt w B L x) :
    Calls Try.prog 65 #[.pointer (some ⟨q, 0, none⟩), .agg (stepCells x L)] w fun e w' =>
      ∃ u, e = .returned u ∧ Mid w w' q p F u (.code (S.flip x.nm x.a x.data).2) X (S.flip x.nm x.a x.data).1 := by
  have HX := Lib.hid hx
  have kq : w.cell? ⟨q, 0, none⟩ = some (.pointer (some ⟨p, 0, none⟩)) := head_cell hd.wn
  have kql : q < w.heap.size := World.block_lt_of_cell? w _ kq
  have HD := Lib.hid hd
  have HF := Lib.hid hF
  have HS := Lib.hid hS
  obtain ⟨E, hE⟩ : ∃ E, E = (S.flip x.nm x.a x.data).2 := ⟨_, rfl⟩
  have HE := Lib.hid hE
  rw [← HE.out]
  obtain ⟨T, hT⟩ : ∃ T, T = (S.flip x.nm x.a x.data).1 := ⟨_, rfl⟩
  have HT := Lib.hid hT
  rw [← HT.out]
  have HXA := Lib.hid hxa
  obtain ⟨m, hm⟩ : ∃ m, m = x.data.length := ⟨_, rfl⟩
  have HM := Lib.hid hm
  obtain ⟨W, hW⟩ : ∃ W, W = ((w.alloc (.cells (stepCells x L) 69)).alloc (.cells zeroSaid 41)).alloc (.cells zeroSaid 41) := ⟨_, rfl⟩
  have HWB : Hid (Below w.heap.size w W) := Lib.hid (by rw [hW]; exact (((Below.refl _ w).alloc (Nat.le_refl _) _).alloc (by simp) _).alloc (by simp; omega) _)
  have HBW : Hid (Box W w.heap.size) := Lib.hid (by
    rw [hW]
    constructor
    · have := Blk.new ((w.alloc (.cells (stepCells x L) 69)).alloc (.cells zeroSaid 41)) 41 zeroSaid
      simpa using this
    · have := Blk.new (w.alloc (.cells (stepCells x L) 69)) 41 zeroSaid
      have := this.alloc (.cells zeroSaid 41)
      simpa using this)
  have HXW : Hid (Blk W w.heap.size 69 (stepCells x L)) := Lib.hid (by rw [hW]; exact ((Blk.new _ _ _).alloc _).alloc _)
  have HWS : Hid (W.heap.size = w.heap.size + 3) := Lib.hid (by rw [hW]; simp)
  unfold stepCells zeroSaid at hW
  rw [hk] at hW
  unfold stepCells
  rw [hk]
  have HW := Lib.hid hW
  have kqc : W.cell? ⟨q, 0, none⟩ = some (.pointer (some ⟨p, 0, none⟩)) := head_cell (HD.out.below HWB.out).wn
  rw [hW] at kqc
  rw [← HM.out] at HW kqc
  rw [← HM.out]
  clear hk hx hd hF hS hE hT hm hxa hW
  go_enter Try.func65, Try.ntmps65
  go_wp2_with fail
  go_region_held3 (fun w' => w'.cell? ⟨q, 0, none⟩ = some (.pointer (some ⟨p, 0, none⟩)) ∧ w'.cell? ⟨w.heap.size, 1, none⟩ = some (.string x.name) ∧ w'.cell? ⟨w.heap.size, 3, none⟩ = some (.slice L.pd m L.cd) ∧ w'.cell? ⟨w.heap.size, 4, none⟩ = some (.int .i64 x.a)) (first | go_keep | (go_split_ands; refine ⟨?_, ?_, ?_, ?_⟩ <;> (rw [World.cell?_setCell_other _ _ _ _ (by first | simp | (simp; omega))]; assumption)))
    (first
      | (go_at_call 18; rw [← HW.out]; refine (twin_any L.pd m L.cd x.data W.drew B (by rw [HM.out]; exact (HXA.out.data.below (HWB.out.mono hB)).drew) (by rw [HM.out]; exact HX.out.data)).mono ?_; rintro e w1 ⟨v, rfl, ho, hb⟩; have hb' : Below W.heap.size W w1 := below_of_drew hb; obtain ⟨a1, c1, rfl, hmc⟩ := own_shape ho; have kq' : w1.cell? ⟨q, 0, none⟩ = some (.pointer (some ⟨p, 0, none⟩)) := head_cell ((HD.out.below HWB.out).below hb').wn; have k1 : w1.cell? ⟨w.heap.size, 1, none⟩ = some (.string x.name) := (hb'.cell HXW.out.lt).trans (HXW.out.cell 1); have k3 : w1.cell? ⟨w.heap.size, 3, none⟩ = some (.slice L.pd m L.cd) := (by rw [HM.out]; exact (hb'.cell HXW.out.lt).trans (HXW.out.cell 3)); have k4 : w1.cell? ⟨w.heap.size, 4, none⟩ = some (.int .i64 x.a) := (hb'.cell HXW.out.lt).trans (HXW.out.cell 4); have HBX1 := Lib.hid (HBW.out.below hb'); have HO1 : Hid (w1.ownsRow W.heap.size 5 1 (.slice a1 m c1) m (x.data.map B8)) := Lib.hid ho; have HB1 := Lib.hid hb'; have HMC := Lib.hid hmc; clear ho hb hb' hmc)
      | (go_at_call 67; rw [HM.out]; refine (wd_lift ((HD.out.below HWB.out).below HB1.out) fun FD hd hFD => flip_any p S FD x.name x.a a1 c1 x.data w1 HX.out.name hd HS.out (by rw [← HM.out]; exact Reads.of_own HO1.out) (fun ad e hf => (by subst e; have h1 := (HO1.out.lt _ rfl).1; have h2 := HF.out _ (hFD _ hf); have h3 := HWS.out; omega)) (by rw [← HM.out]; exact HMC.out) HX.out.data).mono ?_; rintro e w2 ⟨rfl, hd2, ht2⟩; rw [show (S.flip x.name.data.toList x.a x.data).2 = E from HE.out.symm]; rw [show (S.flip x.name.data.toList x.a x.data).1 = T from HT.out.symm] at hd2; have HBX := Lib.hid (HBX1.out.touch ht2 HF.out); have HD2 := Lib.hid hd2; have HT2 := Lib.hid ht2; have kq' : w2.cell? ⟨q, 0, none⟩ = some (.pointer (some ⟨p, 0, none⟩)) := head_cell (HD2.out).wn; have k1 : w2.cell? ⟨w.heap.size, 1, none⟩ = some (.string x.name) := (World.cell?_of_block (ht2.block _ (Nat.lt_of_lt_of_le HXW.out.lt HB1.out.size) (fun hf => absurd (HF.out _ hf) (Nat.lt_irrefl _)))).trans k1; have k3 : w2.cell? ⟨w.heap.size, 3, none⟩ = some (.slice L.pd m L.cd) := (World.cell?_of_block (ht2.block _ (Nat.lt_of_lt_of_le HXW.out.lt HB1.out.size) (fun hf => absurd (HF.out _ hf) (Nat.lt_irrefl _)))).trans k3; have k4 : w2.cell? ⟨w.heap.size, 4, none⟩ = some (.int .i64 x.a) := (World.cell?_of_block (ht2.block _ (Nat.lt_of_lt_of_le HXW.out.lt HB1.out.size) (fun hf => absurd (HF.out _ hf) (Nat.lt_irrefl _)))).trans k4; clear hd2 ht2; have b0 : w2.cell? ⟨w.heap.size + 1 + 1, 0, none⟩ = some (.int .i64 0) := HBX.out.s.cell 0; have b1 : w2.cell? ⟨w.heap.size + 1 + 1, 1, none⟩ = some (.slice none 0 0) := HBX.out.s.cell 1; have b2 : w2.cell? ⟨w.heap.size + 1 + 1, 2, none⟩ = some (.slice none 0 0) := HBX.out.s.cell 2; have b3 : w2.cell? ⟨w.heap.size + 1 + 1, 3, none⟩ = some (.slice none 0 0) := HBX.out.s.cell 3; have b4 : w2.cell? ⟨w.heap.size + 1 + 1, 4, none⟩ = some (.int .i64 0) := HBX.out.s.cell 4; have b5 : w2.cell? ⟨w.heap.size + 1 + 1, 5, none⟩ = some (.bool false) := HBX.out.s.cell 5; have bf : ∀ i, w2.frozen? ⟨w.heap.size + 1 + 1, i, none⟩ = false := HBX.out.s.frozen; have r0 : w2.cell? ⟨w.heap.size + 1, 0, none⟩ = some (.int .i64 0) := HBX.out.r.cell 0; have r1 : w2.cell? ⟨w.heap.size + 1, 1, none⟩ = some (.slice none 0 0) := HBX.out.r.cell 1; have r2 : w2.cell? ⟨w.heap.size + 1, 2, none⟩ = some (.slice none 0 0) := HBX.out.r.cell 2; have r3 : w2.cell? ⟨w.heap.size + 1, 3, none⟩ = some (.slice none 0 0) := HBX.out.r.cell 3; have r4 : w2.cell? ⟨w.heap.size + 1, 4, none⟩ = some (.int .i64 0) := HBX.out.r.cell 4; have r5 : w2.cell? ⟨w.heap.size + 1, 5, none⟩ = some (.bool false) := HBX.out.r.cell 5; have rf : ∀ i, w2.frozen? ⟨w.heap.size + 1, i, none⟩ = false := HBX.out.r.frozen))
  go_wp2
  refine bodyPost_ret (v := .agg #[.int .i64 E, .slice none 0 0, .slice none 0 0, .slice none 0 0, .int .i64 0, .bool false]) (by simp only [results, Try.results65]; go_simp) rfl ?_
  refine ⟨_, rfl, Mid.code (fun b => Said.code_at _ b _) (frame_wd (G := fun k => k = w.heap.size + 1 ∨ k = w.heap.size + 1 + 1) (HWB.out.trans (HB1.out.mono HWB.out.size)) HD2.out HT2.out ?_ ?_ HF.out (fun k hk => by have := HWS.out; have := HB1.out.size; rcases hk with rfl | rfl <;> omega))⟩
  · exact (((((((Touch.refl _ _).set (Or.inr rfl) _).set (Or.inl rfl) _).set (Or.inl rfl) _).set (Or.inl rfl) _).set (Or.inl rfl) _).set (Or.inl rfl) _).set (Or.inl rfl) _
  · simp only [size_set]

set_option maxRecDepth 100000 in
set_option maxHeartbeats 1000000 in
theorem promotedS_crash (q p : Nat) (X : Wnd) (S : Drv) (F : Nat → Prop) (x : PStep) (L : SLay) (w : World) (hk : x.kind = 20) (hx : x.Fits) (hd : WD w q p X S F) (hF : ∀ k, F k → k < w.heap.size) (hS : S.Small) (B : Nat) (hB : B ≤ w.heap.size) (hxa : StepAt w B L x) (N : Nat) (hI : S.Inv N) (hN : N ≤ 2199023254000) :
    Calls Try.prog 65 #[.pointer (some ⟨q, 0, none⟩), .agg (stepCells x L)] w fun e w' =>
      ∃ u, e = .returned u ∧ Mid w w' q p F u (.code 0) X (S.crash x.dirs x.cuts) := by
  have HX := Lib.hid hx
  have kq : w.cell? ⟨q, 0, none⟩ = some (.pointer (some ⟨p, 0, none⟩)) := head_cell hd.wn
  have kql : q < w.heap.size := World.block_lt_of_cell? w _ kq
  have HD := Lib.hid hd
  have HF := Lib.hid hF
  have HS := Lib.hid hS
  obtain ⟨T, hT⟩ : ∃ T, T = S.crash x.dirs x.cuts := ⟨_, rfl⟩
  have HT := Lib.hid hT
  rw [← HT.out]
  have HXA := Lib.hid hxa
  have HI := Lib.hid hI
  obtain ⟨m, hm⟩ : ∃ m, m = x.dirs.length := ⟨_, rfl⟩
  have HM := Lib.hid hm
  obtain ⟨m2, hm2⟩ : ∃ m2, m2 = x.cuts.length := ⟨_, rfl⟩
  have HM2 := Lib.hid hm2
  obtain ⟨W, hW⟩ : ∃ W, W = ((w.alloc (.cells (stepCells x L) 69)).alloc (.cells zeroSaid 41)).alloc (.cells zeroSaid 41) := ⟨_, rfl⟩
  have HWB : Hid (Below w.heap.size w W) := Lib.hid (by rw [hW]; exact (((Below.refl _ w).alloc (Nat.le_refl _) _).alloc (by simp) _).alloc (by simp; omega) _)
  have HBW : Hid (Box W w.heap.size) := Lib.hid (by
    rw [hW]
    constructor
    · have := Blk.new ((w.alloc (.cells (stepCells x L) 69)).alloc (.cells zeroSaid 41)) 41 zeroSaid
      simpa using this
    · have := Blk.new (w.alloc (.cells (stepCells x L) 69)) 41 zeroSaid
      have := this.alloc (.cells zeroSaid 41)
      simpa using this)
  have HXW : Hid (Blk W w.heap.size 69 (stepCells x L)) := Lib.hid (by rw [hW]; exact ((Blk.new _ _ _).alloc _).alloc _)
  have HWS : Hid (W.heap.size = w.heap.size + 3) := Lib.hid (by rw [hW]; simp)
  unfold stepCells zeroSaid at hW
  rw [hk] at hW
  unfold stepCells
  rw [hk]
  have HW := Lib.hid hW
  have kqc : W.cell? ⟨q, 0, none⟩ = some (.pointer (some ⟨p, 0, none⟩)) := head_cell (HD.out.below HWB.out).wn
  rw [hW] at kqc
  rw [← HM.out, ← HM2.out] at HW kqc
  rw [← HM.out, ← HM2.out]
  clear hk hx hd hF hS hT hm hm2 hxa hI hW
  go_enter Try.func65, Try.ntmps65
  go_wp2_with fail
  go_region_held3 (fun w' => w'.cell? ⟨q, 0, none⟩ = some (.pointer (some ⟨p, 0, none⟩)) ∧ w'.cell? ⟨w.heap.size, 9, none⟩ = some (.slice L.pr m L.cr) ∧ w'.cell? ⟨w.heap.size, 10, none⟩ = some (.slice L.pc m2 L.cc)) (first | go_keep | (go_split_ands; refine ⟨?_, ?_, ?_⟩ <;> (rw [World.cell?_setCell_other _ _ _ _ (by first | simp | (simp; omega))]; assumption)))
    (first
      | (go_at_call 44; rw [← HW.out]; refine (fate_any L.pr m L.cr x.dirs L.pc m2 L.cc x.cuts W.drew B (by rw [HM.out]; exact (HXA.out.dirs.below (HWB.out.mono hB)).drew) (by rw [HM2.out]; exact (HXA.out.cuts.below (HWB.out.mono hB)).drew) (Nat.le_trans hB HWB.out.size) (by rw [HM.out]; exact HX.out.dirs) (by rw [HM2.out]; exact HX.out.cuts)).mono ?_; rintro e w1 ⟨a1, c1, a2, c2, rfl, ho, ho2, hb⟩; have hb' : Below W.heap.size W w1 := below_of_drew hb; have kq' : w1.cell? ⟨q, 0, none⟩ = some (.pointer (some ⟨p, 0, none⟩)) := head_cell ((HD.out.below HWB.out).below hb').wn; have k9 : w1.cell? ⟨w.heap.size, 9, none⟩ = some (.slice L.pr m L.cr) := (by rw [HM.out]; exact (hb'.cell HXW.out.lt).trans (HXW.out.cell 9)); have k10 : w1.cell? ⟨w.heap.size, 10, none⟩ = some (.slice L.pc m2 L.cc) := (by rw [HM2.out]; exact (hb'.cell HXW.out.lt).trans (HXW.out.cell 10)); have HBX1 := Lib.hid (HBW.out.below hb'); have HO1 := Lib.hid ho; have HO2 := Lib.hid ho2; have HB1 := Lib.hid hb'; clear ho ho2 hb hb')
      | (go_at_call 43; refine (wcrash_any q p X S N F a1 m c1 x.dirs a2 m2 c2 x.cuts w1 ((HD.out.below HWB.out).below HB1.out) HI.out hN (Reads.of_own HO1.out) (Reads.of_own HO2.out) (spot_none HO1.out) (spot_none HO2.out) (by rw [HM.out]; exact HX.out.dirs) (by rw [HM2.out]; have := HX.out.cuts; omega)).mono ?_; rintro e w2 ⟨rfl, hd2, ht2⟩; rw [← HT.out] at hd2; have HBX := Lib.hid (HBX1.out.touch ht2 HF.out); have HD2 := Lib.hid hd2; have HT2 := Lib.hid ht2; have kq' : w2.cell? ⟨q, 0, none⟩ = some (.pointer (some ⟨p, 0, none⟩)) := head_cell (HD2.out).wn; have k9 : w2.cell? ⟨w.heap.size, 9, none⟩ = some (.slice L.pr m L.cr) := (World.cell?_of_block (ht2.block _ (Nat.lt_of_lt_of_le HXW.out.lt HB1.out.size) (fun hf => absurd (HF.out _ hf) (Nat.lt_irrefl _)))).trans k9; have k10 : w2.cell? ⟨w.heap.size, 10, none⟩ = some (.slice L.pc m2 L.cc) := (World.cell?_of_block (ht2.block _ (Nat.lt_of_lt_of_le HXW.out.lt HB1.out.size) (fun hf => absurd (HF.out _ hf) (Nat.lt_irrefl _)))).trans k10; clear hd2 ht2; have b0 : w2.cell? ⟨w.heap.size + 1 + 1, 0, none⟩ = some (.int .i64 0) := HBX.out.s.cell 0; have b1 : w2.cell? ⟨w.heap.size + 1 + 1, 1, none⟩ = some (.slice none 0 0) := HBX.out.s.cell 1; have b2 : w2.cell? ⟨w.heap.size + 1 + 1, 2, none⟩ = some (.slice none 0 0) := HBX.out.s.cell 2; have b3 : w2.cell? ⟨w.heap.size + 1 + 1, 3, none⟩ = some (.slice none 0 0) := HBX.out.s.cell 3; have b4 : w2.cell? ⟨w.heap.size + 1 + 1, 4, none⟩ = some (.int .i64 0) := HBX.out.s.cell 4; have b5 : w2.cell? ⟨w.heap.size + 1 + 1, 5, none⟩ = some (.bool false) := HBX.out.s.cell 5; have bf : ∀ i, w2.frozen? ⟨w.heap.size + 1 + 1, i, none⟩ = false := HBX.out.s.frozen; have r0 : w2.cell? ⟨w.heap.size + 1, 0, none⟩ = some (.int .i64 0) := HBX.out.r.cell 0; have r1 : w2.cell? ⟨w.heap.size + 1, 1, none⟩ = some (.slice none 0 0) := HBX.out.r.cell 1; have r2 : w2.cell? ⟨w.heap.size + 1, 2, none⟩ = some (.slice none 0 0) := HBX.out.r.cell 2; have r3 : w2.cell? ⟨w.heap.size + 1, 3, none⟩ = some (.slice none 0 0) := HBX.out.r.cell 3; have r4 : w2.cell? ⟨w.heap.size + 1, 4, none⟩ = some (.int .i64 0) := HBX.out.r.cell 4; have r5 : w2.cell? ⟨w.heap.size + 1, 5, none⟩ = some (.bool false) := HBX.out.r.cell 5; have rf : ∀ i, w2.frozen? ⟨w.heap.size + 1, i, none⟩ = false := HBX.out.r.frozen))
  go_wp2
  refine bodyPost_ret (v := .agg #[.int .i64 0, .slice none 0 0, .slice none 0 0, .slice none 0 0, .int .i64 0, .bool false]) (by simp only [results, Try.results65]; go_simp) rfl ?_
  refine ⟨_, rfl, Mid.code (fun b => Said.code_at _ b _) (frame_wd (G := fun k => k = w.heap.size + 1 ∨ k = w.heap.size + 1 + 1) (HWB.out.trans (HB1.out.mono HWB.out.size)) HD2.out HT2.out ?_ ?_ HF.out (fun k hk => by have := HWS.out; have := HB1.out.size; rcases hk with rfl | rfl <;> omega))⟩
  · exact (((((((Touch.refl _ _).set (Or.inr rfl) _).set (Or.inl rfl) _).set (Or.inl rfl) _).set (Or.inl rfl) _).set (Or.inl rfl) _).set (Or.inl rfl) _).set (Or.inl rfl) _
  · simp only [size_set]

set_option maxRecDepth 100000 in
set_option maxHeartbeats 1000000 in
theorem promotedS_loose (q p : Nat) (X : Wnd) (S : Drv) (F : Nat → Prop) (x : PStep) (L : SLay) (w : World) (hk : x.kind = 19) (hx : x.Fits) (hd : WD w q p X S F) (hF : ∀ k, F k → k < w.heap.size) (hS : S.Small) :
    Calls Try.prog 65 #[.pointer (some ⟨q, 0, none⟩), .agg (stepCells x L)] w fun e w' =>
      ∃ u, e = .returned u ∧ Mid w w' q p F u ({ Said.none_ with n := (S.loose x.nm).1, e := (S.loose x.nm).2 } : Said) X S := by
  have HX := Lib.hid hx
  have kq : w.cell? ⟨q, 0, none⟩ = some (.pointer (some ⟨p, 0, none⟩)) := head_cell hd.wn
  have kql : q < w.heap.size := World.block_lt_of_cell? w _ kq
  have HD := Lib.hid hd
  have HF := Lib.hid hF
  have HS := Lib.hid hS
  obtain ⟨E, hE⟩ : ∃ E, E = (S.loose x.nm).2 := ⟨_, rfl⟩
  have HE := Lib.hid hE
  rw [← HE.out]
  obtain ⟨V, hV⟩ : ∃ V : Int, V = (S.loose x.nm).1 := ⟨_, rfl⟩
  have HV := Lib.hid hV
  rw [← HV.out]
  obtain ⟨addr, hda⟩ := HD.out.dr
  have HDA := Lib.hid hda
  obtain ⟨W, hW⟩ : ∃ W, W = ((w.alloc (.cells (stepCells x L) 69)).alloc (.cells zeroSaid 41)).alloc (.cells zeroSaid 41) := ⟨_, rfl⟩
  have HWB : Hid (Below w.heap.size w W) := Lib.hid (by rw [hW]; exact (((Below.refl _ w).alloc (Nat.le_refl _) _).alloc (by simp) _).alloc (by simp; omega) _)
  have HBW : Hid (Box W w.heap.size) := Lib.hid (by
    rw [hW]
    constructor
    · have := Blk.new ((w.alloc (.cells (stepCells x L) 69)).alloc (.cells zeroSaid 41)) 41 zeroSaid
      simpa using this
    · have := Blk.new (w.alloc (.cells (stepCells x L) 69)) 41 zeroSaid
      have := this.alloc (.cells zeroSaid 41)
      simpa using this)
  have HXW : Hid (Blk W w.heap.size 69 (stepCells x L)) := Lib.hid (by rw [hW]; exact ((Blk.new _ _ _).alloc _).alloc _)
  have HWS : Hid (W.heap.size = w.heap.size + 3) := Lib.hid (by rw [hW]; simp)
  unfold stepCells zeroSaid at hW
  rw [hk] at hW
  unfold stepCells
  rw [hk]
  have HW := Lib.hid hW
  have kqc : W.cell? ⟨q, 0, none⟩ = some (.pointer (some ⟨p, 0, none⟩)) := head_cell (HD.out.below HWB.out).wn
  rw [hW] at kqc
  clear hk hx hd hF hS hE hV hda hW
  go_enter Try.func65, Try.ntmps65
  go_wp2_with fail
  go_region_held3 (fun w' => w'.cell? ⟨q, 0, none⟩ = some (.pointer (some ⟨p, 0, none⟩)) ∧ w'.cell? ⟨w.heap.size, 1, none⟩ = some (.string x.name)) (first | go_keep | (go_split_ands; refine ⟨?_, ?_⟩ <;> (rw [World.cell?_setCell_other _ _ _ _ (by first | simp | (simp; omega))]; assumption)))
    ((go_at_call 66; rw [← HW.out]; refine (loose_any p S addr F x.name W.drew HX.out.name (HDA.out.keep (Touch.of_below (F := fun _ => False) (below_drewN HWB.out 1)) fun _ _ h => h) HS.out.len HS.out.safe).mono ?_; rintro e w2 ⟨rfl, hb⟩; rw [show (S.loose x.name.data.toList).1 = V from HV.out.symm, show (S.loose x.name.data.toList).2 = E from HE.out.symm]; have HB := Lib.hid (below_of_drew hb); have HBX := Lib.hid (HBW.out.below HB.out); have kq' : w2.cell? ⟨q, 0, none⟩ = some (.pointer (some ⟨p, 0, none⟩)) := head_cell ((HD.out.below HWB.out).below HB.out).wn; have k1 : w2.cell? ⟨w.heap.size, 1, none⟩ = some (.string x.name) := (HB.out.cell HXW.out.lt).trans (HXW.out.cell 1); clear hb; have b0 : w2.cell? ⟨w.heap.size + 1 + 1, 0, none⟩ = some (.int .i64 0) := HBX.out.s.cell 0; have b1 : w2.cell? ⟨w.heap.size + 1 + 1, 1, none⟩ = some (.slice none 0 0) := HBX.out.s.cell 1; have b2 : w2.cell? ⟨w.heap.size + 1 + 1, 2, none⟩ = some (.slice none 0 0) := HBX.out.s.cell 2; have b3 : w2.cell? ⟨w.heap.size + 1 + 1, 3, none⟩ = some (.slice none 0 0) := HBX.out.s.cell 3; have b4 : w2.cell? ⟨w.heap.size + 1 + 1, 4, none⟩ = some (.int .i64 0) := HBX.out.s.cell 4; have b5 : w2.cell? ⟨w.heap.size + 1 + 1, 5, none⟩ = some (.bool false) := HBX.out.s.cell 5; have bf : ∀ i, w2.frozen? ⟨w.heap.size + 1 + 1, i, none⟩ = false := HBX.out.s.frozen; have r0 : w2.cell? ⟨w.heap.size + 1, 0, none⟩ = some (.int .i64 0) := HBX.out.r.cell 0; have r1 : w2.cell? ⟨w.heap.size + 1, 1, none⟩ = some (.slice none 0 0) := HBX.out.r.cell 1; have r2 : w2.cell? ⟨w.heap.size + 1, 2, none⟩ = some (.slice none 0 0) := HBX.out.r.cell 2; have r3 : w2.cell? ⟨w.heap.size + 1, 3, none⟩ = some (.slice none 0 0) := HBX.out.r.cell 3; have r4 : w2.cell? ⟨w.heap.size + 1, 4, none⟩ = some (.int .i64 0) := HBX.out.r.cell 4; have r5 : w2.cell? ⟨w.heap.size + 1, 5, none⟩ = some (.bool false) := HBX.out.r.cell 5; have rf : ∀ i, w2.frozen? ⟨w.heap.size + 1, i, none⟩ = false := HBX.out.r.frozen))
  go_wp2
  refine bodyPost_ret (v := .agg #[.int .i64 E, .slice none 0 0, .slice none 0 0, .slice none 0 0, .int .i64 V, .bool false]) (by simp only [results, Try.results65]; go_simp) rfl ?_
  have GB : ∀ k, (k = w.heap.size + 1 ∨ k = w.heap.size + 1 + 1) → k < W.heap.size := fun k hk => by have := HWS.out; rcases hk with rfl | rfl <;> omega
  exact ⟨_, rfl, Mid.code (fun _ => ⟨_, _, _, rfl, World.ownsRow_nil _ _ _ _, World.ownsRow_nil _ _ _ _, FilesAt.nil _ _⟩) (frame_wd (G := fun k => k = w.heap.size + 1 ∨ k = w.heap.size + 1 + 1) HWB.out (wd_grow (HD.out.below HWB.out) HB.out |>.mono fun k h => h) (Touch.of_below HB.out) (by exact ((((((((Touch.refl _ _).set (Or.inr rfl) _).set (Or.inr rfl) _).set (Or.inl rfl) _).set (Or.inl rfl) _).set (Or.inl rfl) _).set (Or.inl rfl) _).set (Or.inl rfl) _).set (Or.inl rfl) _) (by simp only [size_set]) HF.out (fun k hk => by have := HWS.out; rcases hk with rfl | rfl <;> omega))⟩

set_option maxRecDepth 100000 in
set_option maxHeartbeats 1000000 in
theorem promotedS_cut (q p : Nat) (X : Wnd) (S : Drv) (F : Nat → Prop) (x : PStep) (L : SLay) (w : World) (hk : x.kind = 24) (hx : x.Fits) (hd : WD w q p X S F) (hF : ∀ k, F k → k < w.heap.size) (hS : S.Small) :
    Calls Try.prog 65 #[.pointer (some ⟨q, 0, none⟩), .agg (stepCells x L)] w fun e w' =>
      ∃ u, e = .returned u ∧ Mid w w' q p F u (.code (S.cut x.nm x.a).2) X (S.cut x.nm x.a).1 := by
  have HX := Lib.hid hx
  have kq : w.cell? ⟨q, 0, none⟩ = some (.pointer (some ⟨p, 0, none⟩)) := head_cell hd.wn
  have kql : q < w.heap.size := World.block_lt_of_cell? w _ kq
  have HD := Lib.hid hd
  have HF := Lib.hid hF
  have HS := Lib.hid hS
  obtain ⟨E, hE⟩ : ∃ E, E = (S.cut x.nm x.a).2 := ⟨_, rfl⟩
  have HE := Lib.hid hE
  rw [← HE.out]
  obtain ⟨T, hT⟩ : ∃ T, T = (S.cut x.nm x.a).1 := ⟨_, rfl⟩
  have HT := Lib.hid hT
  rw [← HT.out]
  obtain ⟨W, hW⟩ : ∃ W, W = ((w.alloc (.cells (stepCells x L) 69)).alloc (.cells zeroSaid 41)).alloc (.cells zeroSaid 41) := ⟨_, rfl⟩
  have HWB : Hid (Below w.heap.size w W) := Lib.hid (by rw [hW]; exact (((Below.refl _ w).alloc (Nat.le_refl _) _).alloc (by simp) _).alloc (by simp; omega) _)
  have HBW : Hid (Box W w.heap.size) := Lib.hid (by
    rw [hW]
    constructor
    · have := Blk.new ((w.alloc (.cells (stepCells x L) 69)).alloc (.cells zeroSaid 41)) 41 zeroSaid
      simpa using this
    · have := Blk.new (w.alloc (.cells (stepCells x L) 69)) 41 zeroSaid
      have := this.alloc (.cells zeroSaid 41)
      simpa using this)
  have HXW : Hid (Blk W w.heap.size 69 (stepCells x L)) := Lib.hid (by rw [hW]; exact ((Blk.new _ _ _).alloc _).alloc _)
  have HWS : Hid (W.heap.size = w.heap.size + 3) := Lib.hid (by rw [hW]; simp)
  unfold stepCells zeroSaid at hW
  rw [hk] at hW
  unfold stepCells
  rw [hk]
  have HW := Lib.hid hW
  have kqc : W.cell? ⟨q, 0, none⟩ = some (.pointer (some ⟨p, 0, none⟩)) := head_cell (HD.out.below HWB.out).wn
  rw [hW] at kqc
  clear hk hx hd hF hS hE hT hW
  go_enter Try.func65, Try.ntmps65
  go_wp2_with fail
  go_region_held3 (fun w' => w'.cell? ⟨q, 0, none⟩ = some (.pointer (some ⟨p, 0, none⟩)) ∧ w'.cell? ⟨w.heap.size, 1, none⟩ = some (.string x.name) ∧ w'.cell? ⟨w.heap.size, 4, none⟩ = some (.int .i64 x.a)) (first | go_keep | (go_split_ands; refine ⟨?_, ?_, ?_⟩ <;> (rw [World.cell?_setCell_other _ _ _ _ (by first | simp | (simp; omega))]; assumption)))
    ((go_at_call 68; rw [← HW.out]; refine (wd_lift (HD.out.below (below_drewN HWB.out 1)) fun FD hd _ => cut_any p S FD x.name x.a W.drew HX.out.name hd HS.out).mono ?_; rintro e w2 ⟨rfl, hd2, ht2'⟩; rw [show (S.cut x.name.data.toList x.a).2 = E from HE.out.symm]; rw [show (S.cut x.name.data.toList x.a).1 = T from HT.out.symm] at hd2; have ht2 : Touch F W w2 := (Touch.drewN W 1).trans (ht2'.mono fun k _ hk => .inl hk); have HBX := Lib.hid (HBW.out.touch ht2 HF.out); have HD2 : Hid (WD w2 q p X T (grow F W w2)) := Lib.hid hd2; have HT2 := Lib.hid ht2; have kq' : w2.cell? ⟨q, 0, none⟩ = some (.pointer (some ⟨p, 0, none⟩)) := head_cell (HD2.out).wn; have k1 : w2.cell? ⟨w.heap.size, 1, none⟩ = some (.string x.name) := (World.cell?_of_block (ht2.block _ HXW.out.lt (fun hf => absurd (HF.out _ hf) (Nat.lt_irrefl _)))).trans (HXW.out.cell 1); have k4 : w2.cell? ⟨w.heap.size, 4, none⟩ = some (.int .i64 x.a) := (World.cell?_of_block (ht2.block _ HXW.out.lt (fun hf => absurd (HF.out _ hf) (Nat.lt_irrefl _)))).trans (HXW.out.cell 4); clear hd2 ht2 ht2'; have b0 : w2.cell? ⟨w.heap.size + 1 + 1, 0, none⟩ = some (.int .i64 0) := HBX.out.s.cell 0; have b1 : w2.cell? ⟨w.heap.size + 1 + 1, 1, none⟩ = some (.slice none 0 0) := HBX.out.s.cell 1; have b2 : w2.cell? ⟨w.heap.size + 1 + 1, 2, none⟩ = some (.slice none 0 0) := HBX.out.s.cell 2; have b3 : w2.cell? ⟨w.heap.size + 1 + 1, 3, none⟩ = some (.slice none 0 0) := HBX.out.s.cell 3; have b4 : w2.cell? ⟨w.heap.size + 1 + 1, 4, none⟩ = some (.int .i64 0) := HBX.out.s.cell 4; have b5 : w2.cell? ⟨w.heap.size + 1 + 1, 5, none⟩ = some (.bool false) := HBX.out.s.cell 5; have bf : ∀ i, w2.frozen? ⟨w.heap.size + 1 + 1, i, none⟩ = false := HBX.out.s.frozen; have r0 : w2.cell? ⟨w.heap.size + 1, 0, none⟩ = some (.int .i64 0) := HBX.out.r.cell 0; have r1 : w2.cell? ⟨w.heap.size + 1, 1, none⟩ = some (.slice none 0 0) := HBX.out.r.cell 1; have r2 : w2.cell? ⟨w.heap.size + 1, 2, none⟩ = some (.slice none 0 0) := HBX.out.r.cell 2; have r3 : w2.cell? ⟨w.heap.size + 1, 3, none⟩ = some (.slice none 0 0) := HBX.out.r.cell 3; have r4 : w2.cell? ⟨w.heap.size + 1, 4, none⟩ = some (.int .i64 0) := HBX.out.r.cell 4; have r5 : w2.cell? ⟨w.heap.size + 1, 5, none⟩ = some (.bool false) := HBX.out.r.cell 5; have rf : ∀ i, w2.frozen? ⟨w.heap.size + 1, i, none⟩ = false := HBX.out.r.frozen))
  go_wp2
  refine bodyPost_ret (v := .agg #[.int .i64 E, .slice none 0 0, .slice none 0 0, .slice none 0 0, .int .i64 0, .bool false]) (by simp only [results, Try.results65]; go_simp) rfl ?_
  refine ⟨_, rfl, Mid.code (fun b => Said.code_at _ b _) (frame_wd (G := fun k => k = w.heap.size + 1 ∨ k = w.heap.size + 1 + 1) HWB.out HD2.out HT2.out ?_ ?_ HF.out (fun k hk => by have := HWS.out; rcases hk with rfl | rfl <;> omega))⟩
  · exact (((((((Touch.refl _ _).set (Or.inr rfl) _).set (Or.inl rfl) _).set (Or.inl rfl) _).set (Or.inl rfl) _).set (Or.inl rfl) _).set (Or.inl rfl) _).set (Or.inl rfl) _
  · simp only [size_set]
end Go.Proofs.Ytdmcjomcbhdcbaa
namespace Go.Proofs.Ytdmcjomcbhdcbaa
open Go.RowKit Go.Maps

set_option maxRecDepth 100000 in
set_option maxHeartbeats 1000000 in
theorem promotedS_other (q p : Nat) (X : Wnd) (S : Drv) (F : Nat → Prop) (x : PStep) (L : SLay) (w : World) (hk : ¬(1 ≤ x.kind ∧ x.kind ≤ 8)) (hk2 : ¬(17 ≤ x.kind ∧ x.kind ≤ 25)) (hx : x.Fits) (hd : WD w q p X S F) (hF : ∀ k, F k → k < w.heap.size) (hS : S.Small) :
    Calls Try.prog 65 #[.pointer (some ⟨q, 0, none⟩), .agg (stepCells x L)] w fun e w' =>
      ∃ u, e = .returned u ∧ Mid w w' q p F u Said.none_ X S := by
  have n1 : x.kind ≠ 1 := by omega
  have n2 : x.kind ≠ 2 := by omega
  have n3 : x.kind ≠ 3 := by omega
  have n4 : x.kind ≠ 4 := by omega
  have n5 : x.kind ≠ 5 := by omega
  have n6 : x.kind ≠ 6 := by omega
  have n7 : x.kind ≠ 7 := by omega
  have n8 : x.kind ≠ 8 := by omega
  have n17 : x.kind ≠ 17 := by omega
  have n18 : x.kind ≠ 18 := by omega
  have n19 : x.kind ≠ 19 := by omega
  have n20 : x.kind ≠ 20 := by omega
  have n21 : x.kind ≠ 21 := by omega
  have n22 : x.kind ≠ 22 := by omega
  have n23 : x.kind ≠ 23 := by omega
  have n24 : x.kind ≠ 24 := by omega
  have n25 : x.kind ≠ 25 := by omega
  have HX := Lib.hid hx
  have kq : w.cell? ⟨q, 0, none⟩ = some (.pointer (some ⟨p, 0, none⟩)) := head_cell hd.wn
  have kql : q < w.heap.size := World.block_lt_of_cell? w _ kq
  have HD := Lib.hid hd
  have HF := Lib.hid hF
  have HS := Lib.hid hS
  obtain ⟨W, hW⟩ : ∃ W, W = ((w.alloc (.cells (stepCells x L) 69)).alloc (.cells zeroSaid 41)).alloc (.cells zeroSaid 41) := ⟨_, rfl⟩
  have HWB : Hid (Below w.heap.size w W) := Lib.hid (by rw [hW]; exact (((Below.refl _ w).alloc (Nat.le_refl _) _).alloc (by simp) _).alloc (by simp; omega) _)
  have HBW : Hid (Box W w.heap.size) := Lib.hid (by
    rw [hW]
    constructor
    · have := Blk.new ((w.alloc (.cells (stepCells x L) 69)).alloc (.cells zeroSaid 41)) 41 zeroSaid
      simpa using this
    · have := Blk.new (w.alloc (.cells (stepCells x L) 69)) 41 zeroSaid
      have := this.alloc (.cells zeroSaid 41)
      simpa using this)
  have HXW : Hid (Blk W w.heap.size 69 (stepCells x L)) := Lib.hid (by rw [hW]; exact ((Blk.new _ _ _).alloc _).alloc _)
  have HWS : Hid (W.heap.size = w.heap.size + 3) := Lib.hid (by rw [hW]; simp)
  unfold stepCells zeroSaid at hW
  unfold stepCells
  have HW := Lib.hid hW
  have kqc : W.cell? ⟨q, 0, none⟩ = some (.pointer (some ⟨p, 0, none⟩)) := head_cell (HD.out.below HWB.out).wn
  rw [hW] at kqc
  clear hk hx hd hF hS hk2 hW
  go_enter Try.func65, Try.ntmps65
  go_wp2
  rw [← HW.out]
  have b0 : W.cell? ⟨w.heap.size + 1 + 1, 0, none⟩ = some (.int .i64 0) := HBW.out.s.cell 0
  have b1 : W.cell? ⟨w.heap.size + 1 + 1, 1, none⟩ = some (.slice none 0 0) := HBW.out.s.cell 1
  have b2 : W.cell? ⟨w.heap.size + 1 + 1, 2, none⟩ = some (.slice none 0 0) := HBW.out.s.cell 2
  have b3 : W.cell? ⟨w.heap.size + 1 + 1, 3, none⟩ = some (.slice none 0 0) := HBW.out.s.cell 3
  have b4 : W.cell? ⟨w.heap.size + 1 + 1, 4, none⟩ = some (.int .i64 0) := HBW.out.s.cell 4
  have b5 : W.cell? ⟨w.heap.size + 1 + 1, 5, none⟩ = some (.bool false) := HBW.out.s.cell 5
  have bf : ∀ i, W.frozen? ⟨w.heap.size + 1 + 1, i, none⟩ = false := HBW.out.s.frozen
  have r0 : W.cell? ⟨w.heap.size + 1, 0, none⟩ = some (.int .i64 0) := HBW.out.r.cell 0
  have r1 : W.cell? ⟨w.heap.size + 1, 1, none⟩ = some (.slice none 0 0) := HBW.out.r.cell 1
  have r2 : W.cell? ⟨w.heap.size + 1, 2, none⟩ = some (.slice none 0 0) := HBW.out.r.cell 2
  have r3 : W.cell? ⟨w.heap.size + 1, 3, none⟩ = some (.slice none 0 0) := HBW.out.r.cell 3
  have r4 : W.cell? ⟨w.heap.size + 1, 4, none⟩ = some (.int .i64 0) := HBW.out.r.cell 4
  have r5 : W.cell? ⟨w.heap.size + 1, 5, none⟩ = some (.bool false) := HBW.out.r.cell 5
  have rf : ∀ i, W.frozen? ⟨w.heap.size + 1, i, none⟩ = false := HBW.out.r.frozen
  refine bodyPost_ret (v := .agg #[.int .i64 0, .slice none 0 0, .slice none 0 0, .slice none 0 0, .int .i64 0, .bool false]) (by simp only [results, Try.results65]; go_simp) rfl ?_
  refine ⟨_, rfl, Mid.code (fun b => Said.code_at _ b _) (frame_wd (G := fun k => k = w.heap.size + 1 ∨ k = w.heap.size + 1 + 1) HWB.out (wd_grow (HD.out.below HWB.out) (Below.refl _ _) |>.mono fun k h => h) (Touch.refl _ _) (Touch.refl _ _) rfl HF.out (fun k hk => by have := HWS.out; rcases hk with rfl | rfl <;> omega))⟩

theorem promotedS_any (q p : Nat) (X : Wnd) (S : Drv) (N : Nat) (F : Nat → Prop) (x : PStep) (L : SLay) (w : World) (B : Nat) (h8 : ¬(1 ≤ x.kind ∧ x.kind ≤ 8)) (hx : x.Fits) (hd : WD w q p X S F) (hF : ∀ k, F k → k < w.heap.size) (hI : S.Inv N) (hN : N ≤ 2199023254000) (hB : B ≤ w.heap.size) (hxa : StepAt w B L x) :
    Calls Try.prog 65 #[.pointer (some ⟨q, 0, none⟩), .agg (stepCells x L)] w fun e w' =>
      ∃ u, e = .returned u ∧ Mid w w' q p F u (plain25 S x).2 X (plain25 S x).1 := by
  have hS := hI.small hN
  by_cases h : 17 ≤ x.kind ∧ x.kind ≤ 25
  · rcases (show x.kind = 17 ∨ x.kind = 18 ∨ x.kind = 19 ∨ x.kind = 20 ∨ x.kind = 21 ∨ x.kind = 22 ∨ x.kind = 23 ∨ x.kind = 24 ∨ x.kind = 25 by omega) with h | h | h | h | h | h | h | h | h
    · rw [plain25_used h]; exact promotedS_used q p X S F x L w h hx hd hF hS
    · rw [plain25_pending h]; exact promotedS_pending q p X S F x L w h hx hd hF hS
    · rw [plain25_loose h]; exact promotedS_loose q p X S F x L w h hx hd hF hS
    · rw [plain25_crash h]; exact promotedS_crash q p X S F x L w h hx hd hF hS B hB hxa N hI hN
    · rw [plain25_image h]; exact promotedS_image q p X S F x L w h hx hd hF hS N hI
    · rw [plain25_safe h]; exact promotedS_safe q p X S F x L w h hx hd hF hS N hI
    · rw [plain25_flip h]; exact promotedS_flip q p X S F x L w h hx hd hF hS B hB hxa
    · rw [plain25_cut h]; exact promotedS_cut q p X S F x L w h hx hd hF hS
    · rw [plain25_wipe h]; exact promotedS_wipe q p X S F x L w h hx hd hF hS
  · rw [plain25_call h, plain8_none h8]
    exact promotedS_other q p X S F x L w h8 h hx hd hF hS

set_option maxRecDepth 100000 in
set_option maxHeartbeats 1000000 in
theorem hurtS_calls (q p : Nat) (X : Wnd) (S : Drv) (F : Nat → Prop) (x : PStep) (L : SLay) (w : World) (hk : x.kind = 10) (hx : x.Fits) (hd : WD w q p X S F) (hF : ∀ k, F k → k < w.heap.size) (hX : X.Ok) (hS : S.Small) :
    Calls Try.prog 37 #[.pointer (some ⟨q, 0, none⟩), .agg (stepCells x L)] w fun e w' =>
      ∃ u, e = .returned u ∧ Mid w w' q p F u ({ Said.none_ with n := X.calls } : Said) X S := by
  have HOK := Lib.hid hX
  have HX := Lib.hid hx
  have HD := Lib.hid hd
  have HF := Lib.hid hF
  have HS := Lib.hid hS
  obtain ⟨V, hV⟩ : ∃ V : Int, V = X.calls := ⟨_, rfl⟩
  have HV := Lib.hid hV
  rw [← HV.out]
  obtain ⟨W, hW⟩ : ∃ W, W = ((w.alloc (.cells (stepCells x L) 69)).alloc (.cells zeroSaid 41)).alloc (.cells zeroSaid 41) := ⟨_, rfl⟩
  have HWB : Hid (Below w.heap.size w W) := Lib.hid (by rw [hW]; exact (((Below.refl _ w).alloc (Nat.le_refl _) _).alloc (by simp) _).alloc (by simp; omega) _)
  have HBW : Hid (Box W w.heap.size) := Lib.hid (by
    rw [hW]
    constructor
    · have := Blk.new ((w.alloc (.cells (stepCells x L) 69)).alloc (.cells zeroSaid 41)) 41 zeroSaid
      simpa using this
    · have := Blk.new (w.alloc (.cells (stepCells x L) 69)) 41 zeroSaid
      have := this.alloc (.cells zeroSaid 41)
      simpa using this)
  have HXW : Hid (Blk W w.heap.size 69 (stepCells x L)) := Lib.hid (by rw [hW]; exact ((Blk.new _ _ _).alloc _).alloc _)
  have HWS : Hid (W.heap.size = w.heap.size + 3) := Lib.hid (by rw [hW]; simp)
  unfold stepCells zeroSaid at hW
  rw [hk] at hW
  unfold stepCells
  rw [hk]
  have HW := Lib.hid hW
  clear hk hx hd hF hS hX hV hW
  go_enter Try.func37, Try.ntmps37
  go_wp2_with (go_at_call 27; rw [← HW.out]; refine (calls_any q _ X _ W (HD.out.below HWB.out).wn).mono ?_; rintro e w2 ⟨rfl, hw2⟩; rw [← HV.out]; have HB : Hid (Below W.heap.size W w2) := Lib.hid (hw2 ▸ Below.refl _ _); have HBX := Lib.hid (HBW.out.below HB.out); clear hw2; have b0 : w2.cell? ⟨w.heap.size + 1 + 1, 0, none⟩ = some (.int .i64 0) := HBX.out.s.cell 0; have b1 : w2.cell? ⟨w.heap.size + 1 + 1, 1, none⟩ = some (.slice none 0 0) := HBX.out.s.cell 1; have b2 : w2.cell? ⟨w.heap.size + 1 + 1, 2, none⟩ = some (.slice none 0 0) := HBX.out.s.cell 2; have b3 : w2.cell? ⟨w.heap.size + 1 + 1, 3, none⟩ = some (.slice none 0 0) := HBX.out.s.cell 3; have b4 : w2.cell? ⟨w.heap.size + 1 + 1, 4, none⟩ = some (.int .i64 0) := HBX.out.s.cell 4; have b5 : w2.cell? ⟨w.heap.size + 1 + 1, 5, none⟩ = some (.bool false) := HBX.out.s.cell 5; have bf : ∀ i, w2.frozen? ⟨w.heap.size + 1 + 1, i, none⟩ = false := HBX.out.s.frozen; have r0 : w2.cell? ⟨w.heap.size + 1, 0, none⟩ = some (.int .i64 0) := HBX.out.r.cell 0; have r1 : w2.cell? ⟨w.heap.size + 1, 1, none⟩ = some (.slice none 0 0) := HBX.out.r.cell 1; have r2 : w2.cell? ⟨w.heap.size + 1, 2, none⟩ = some (.slice none 0 0) := HBX.out.r.cell 2; have r3 : w2.cell? ⟨w.heap.size + 1, 3, none⟩ = some (.slice none 0 0) := HBX.out.r.cell 3; have r4 : w2.cell? ⟨w.heap.size + 1, 4, none⟩ = some (.int .i64 0) := HBX.out.r.cell 4; have r5 : w2.cell? ⟨w.heap.size + 1, 5, none⟩ = some (.bool false) := HBX.out.r.cell 5; have rf : ∀ i, w2.frozen? ⟨w.heap.size + 1, i, none⟩ = false := HBX.out.r.frozen)
  refine bodyPost_ret (v := .agg #[.int .i64 0, .slice none 0 0, .slice none 0 0, .slice none 0 0, .int .i64 V, .bool false]) (by simp only [results, Try.results37]; go_simp) rfl ?_
  have GB : ∀ k, (k = w.heap.size + 1 ∨ k = w.heap.size + 1 + 1) → k < W.heap.size := fun k hk => by have := HWS.out; rcases hk with rfl | rfl <;> omega
  exact ⟨_, rfl, Mid.code (fun _ => ⟨_, _, _, rfl, World.ownsRow_nil _ _ _ _, World.ownsRow_nil _ _ _ _, FilesAt.nil _ _⟩) (frame_wd (G := fun k => k = w.heap.size + 1 ∨ k = w.heap.size + 1 + 1) HWB.out (wd_grow (HD.out.below HWB.out) HB.out |>.mono fun k h => h) (Touch.of_below HB.out) (by exact (((((((Touch.refl _ _).set (Or.inr rfl) _).set (Or.inl rfl) _).set (Or.inl rfl) _).set (Or.inl rfl) _).set (Or.inl rfl) _).set (Or.inl rfl) _).set (Or.inl rfl) _) (by simp only [size_set]) HF.out (fun k hk => by have := HWS.out; rcases hk with rfl | rfl <;> omega))⟩

set_option maxRecDepth 100000 in
set_option maxHeartbeats 1000000 in
theorem hurtS_lit (q p : Nat) (X : Wnd) (S : Drv) (F : Nat → Prop) (x : PStep) (L : SLay) (w : World) (hk : x.kind = 13) (hx : x.Fits) (hd : WD w q p X S F) (hF : ∀ k, F k → k < w.heap.size) (hX : X.Ok) (hS : S.Small) :
    Calls Try.prog 37 #[.pointer (some ⟨q, 0, none⟩), .agg (stepCells x L)] w fun e w' =>
      ∃ u, e = .returned u ∧ Mid w w' q p F u ({ Said.none_ with yes := X.lit } : Said) X S := by
  have HOK := Lib.hid hX
  have HX := Lib.hid hx
  have HD := Lib.hid hd
  have HF := Lib.hid hF
  have HS := Lib.hid hS
  obtain ⟨V, hV⟩ : ∃ V : Bool, V = X.lit := ⟨_, rfl⟩
  have HV := Lib.hid hV
  rw [← HV.out]
  obtain ⟨W, hW⟩ : ∃ W, W = ((w.alloc (.cells (stepCells x L) 69)).alloc (.cells zeroSaid 41)).alloc (.cells zeroSaid 41) := ⟨_, rfl⟩
  have HWB : Hid (Below w.heap.size w W) := Lib.hid (by rw [hW]; exact (((Below.refl _ w).alloc (Nat.le_refl _) _).alloc (by simp) _).alloc (by simp; omega) _)
  have HBW : Hid (Box W w.heap.size) := Lib.hid (by
    rw [hW]
    constructor
    · have := Blk.new ((w.alloc (.cells (stepCells x L) 69)).alloc (.cells zeroSaid 41)) 41 zeroSaid
      simpa using this
    · have := Blk.new (w.alloc (.cells (stepCells x L) 69)) 41 zeroSaid
      have := this.alloc (.cells zeroSaid 41)
      simpa using this)
  have HXW : Hid (Blk W w.heap.size 69 (stepCells x L)) := Lib.hid (by rw [hW]; exact ((Blk.new _ _ _).alloc _).alloc _)
  have HWS : Hid (W.heap.size = w.heap.size + 3) := Lib.hid (by rw [hW]; simp)
  unfold stepCells zeroSaid at hW
  rw [hk] at hW
  unfold stepCells
  rw [hk]
  have HW := Lib.hid hW
  clear hk hx hd hF hS hX hV hW
  go_enter Try.func37, Try.ntmps37
  go_wp2_with (go_at_call 28; rw [← HW.out]; refine (wlit_any q p X S _ W (HD.out.below HWB.out)).mono ?_; rintro e w2 ⟨rfl, hw2⟩; rw [← HV.out]; have HB : Hid (Below W.heap.size W w2) := Lib.hid (hw2 ▸ Below.refl _ _); have HBX := Lib.hid (HBW.out.below HB.out); clear hw2; have b0 : w2.cell? ⟨w.heap.size + 1 + 1, 0, none⟩ = some (.int .i64 0) := HBX.out.s.cell 0; have b1 : w2.cell? ⟨w.heap.size + 1 + 1, 1, none⟩ = some (.slice none 0 0) := HBX.out.s.cell 1; have b2 : w2.cell? ⟨w.heap.size + 1 + 1, 2, none⟩ = some (.slice none 0 0) := HBX.out.s.cell 2; have b3 : w2.cell? ⟨w.heap.size + 1 + 1, 3, none⟩ = some (.slice none 0 0) := HBX.out.s.cell 3; have b4 : w2.cell? ⟨w.heap.size + 1 + 1, 4, none⟩ = some (.int .i64 0) := HBX.out.s.cell 4; have b5 : w2.cell? ⟨w.heap.size + 1 + 1, 5, none⟩ = some (.bool false) := HBX.out.s.cell 5; have bf : ∀ i, w2.frozen? ⟨w.heap.size + 1 + 1, i, none⟩ = false := HBX.out.s.frozen; have r0 : w2.cell? ⟨w.heap.size + 1, 0, none⟩ = some (.int .i64 0) := HBX.out.r.cell 0; have r1 : w2.cell? ⟨w.heap.size + 1, 1, none⟩ = some (.slice none 0 0) := HBX.out.r.cell 1; have r2 : w2.cell? ⟨w.heap.size + 1, 2, none⟩ = some (.slice none 0 0) := HBX.out.r.cell 2; have r3 : w2.cell? ⟨w.heap.size + 1, 3, none⟩ = some (.slice none 0 0) := HBX.out.r.cell 3; have r4 : w2.cell? ⟨w.heap.size + 1, 4, none⟩ = some (.int .i64 0) := HBX.out.r.cell 4; have r5 : w2.cell? ⟨w.heap.size + 1, 5, none⟩ = some (.bool false) := HBX.out.r.cell 5; have rf : ∀ i, w2.frozen? ⟨w.heap.size + 1, i, none⟩ = false := HBX.out.r.frozen)
  refine bodyPost_ret (v := .agg #[.int .i64 0, .slice none 0 0, .slice none 0 0, .slice none 0 0, .int .i64 0, .bool V]) (by simp only [results, Try.results37]; go_simp) rfl ?_
  have GB : ∀ k, (k = w.heap.size + 1 ∨ k = w.heap.size + 1 + 1) → k < W.heap.size := fun k hk => by have := HWS.out; rcases hk with rfl | rfl <;> omega
  exact ⟨_, rfl, Mid.code (fun _ => ⟨_, _, _, rfl, World.ownsRow_nil _ _ _ _, World.ownsRow_nil _ _ _ _, FilesAt.nil _ _⟩) (frame_wd (G := fun k => k = w.heap.size + 1 ∨ k = w.heap.size + 1 + 1) HWB.out (wd_grow (HD.out.below HWB.out) HB.out |>.mono fun k h => h) (Touch.of_below HB.out) (by exact (((((((Touch.refl _ _).set (Or.inr rfl) _).set (Or.inl rfl) _).set (Or.inl rfl) _).set (Or.inl rfl) _).set (Or.inl rfl) _).set (Or.inl rfl) _).set (Or.inl rfl) _) (by simp only [size_set]) HF.out (fun k hk => by have := HWS.out; rcases hk with rfl | rfl <;> omega))⟩

set_option maxRecDepth 100000 in
set_option maxHeartbeats 1000000 in
theorem hurtS_on (q p : Nat) (X : Wnd) (S : Drv) (F : Nat → Prop) (x : PStep) (L : SLay) (w : World) (hk : x.kind = 16) (hx : x.Fits) (hd : WD w q p X S F) (hF : ∀ k, F k → k < w.heap.size) (hX : X.Ok) (hS : S.Small) :
    Calls Try.prog 37 #[.pointer (some ⟨q, 0, none⟩), .agg (stepCells x L)] w fun e w' =>
      ∃ u, e = .returned u ∧ Mid w w' q p F u ({ Said.none_ with yes := (!X.down) } : Said) X S := by
  have HOK := Lib.hid hX
  have HX := Lib.hid hx
  have HD := Lib.hid hd
  have HF := Lib.hid hF
  have HS := Lib.hid hS
  obtain ⟨V, hV⟩ : ∃ V : Bool, V = (!X.down) := ⟨_, rfl⟩
  have HV := Lib.hid hV
  rw [← HV.out]
  obtain ⟨W, hW⟩ : ∃ W, W = ((w.alloc (.cells (stepCells x L) 69)).alloc (.cells zeroSaid 41)).alloc (.cells zeroSaid 41) := ⟨_, rfl⟩
  have HWB : Hid (Below w.heap.size w W) := Lib.hid (by rw [hW]; exact (((Below.refl _ w).alloc (Nat.le_refl _) _).alloc (by simp) _).alloc (by simp; omega) _)
  have HBW : Hid (Box W w.heap.size) := Lib.hid (by
    rw [hW]
    constructor
    · have := Blk.new ((w.alloc (.cells (stepCells x L) 69)).alloc (.cells zeroSaid 41)) 41 zeroSaid
      simpa using this
    · have := Blk.new (w.alloc (.cells (stepCells x L) 69)) 41 zeroSaid
      have := this.alloc (.cells zeroSaid 41)
      simpa using this)
  have HXW : Hid (Blk W w.heap.size 69 (stepCells x L)) := Lib.hid (by rw [hW]; exact ((Blk.new _ _ _).alloc _).alloc _)
  have HWS : Hid (W.heap.size = w.heap.size + 3) := Lib.hid (by rw [hW]; simp)
  unfold stepCells zeroSaid at hW
  rw [hk] at hW
  unfold stepCells
  rw [hk]
  have HW := Lib.hid hW
  clear hk hx hd hF hS hX hV hW
  go_enter Try.func37, Try.ntmps37
  go_wp2_with (go_at_call 29; rw [← HW.out]; refine (on_any q _ X _ W (HD.out.below HWB.out).wn).mono ?_; rintro e w2 ⟨rfl, hw2⟩; rw [← HV.out]; have HB : Hid (Below W.heap.size W w2) := Lib.hid (hw2 ▸ Below.refl _ _); have HBX := Lib.hid (HBW.out.below HB.out); clear hw2; have b0 : w2.cell? ⟨w.heap.size + 1 + 1, 0, none⟩ = some (.int .i64 0) := HBX.out.s.cell 0; have b1 : w2.cell? ⟨w.heap.size + 1 + 1, 1, none⟩ = some (.slice none 0 0) := HBX.out.s.cell 1; have b2 : w2.cell? ⟨w.heap.size + 1 + 1, 2, none⟩ = some (.slice none 0 0) := HBX.out.s.cell 2; have b3 : w2.cell? ⟨w.heap.size + 1 + 1, 3, none⟩ = some (.slice none 0 0) := HBX.out.s.cell 3; have b4 : w2.cell? ⟨w.heap.size + 1 + 1, 4, none⟩ = some (.int .i64 0) := HBX.out.s.cell 4; have b5 : w2.cell? ⟨w.heap.size + 1 + 1, 5, none⟩ = some (.bool false) := HBX.out.s.cell 5; have bf : ∀ i, w2.frozen? ⟨w.heap.size + 1 + 1, i, none⟩ = false := HBX.out.s.frozen; have r0 : w2.cell? ⟨w.heap.size + 1, 0, none⟩ = some (.int .i64 0) := HBX.out.r.cell 0; have r1 : w2.cell? ⟨w.heap.size + 1, 1, none⟩ = some (.slice none 0 0) := HBX.out.r.cell 1; have r2 : w2.cell? ⟨w.heap.size + 1, 2, none⟩ = some (.slice none 0 0) := HBX.out.r.cell 2; have r3 : w2.cell? ⟨w.heap.size + 1, 3, none⟩ = some (.slice none 0 0) := HBX.out.r.cell 3; have r4 : w2.cell? ⟨w.heap.size + 1, 4, none⟩ = some (.int .i64 0) := HBX.out.r.cell 4; have r5 : w2.cell? ⟨w.heap.size + 1, 5, none⟩ = some (.bool false) := HBX.out.r.cell 5; have rf : ∀ i, w2.frozen? ⟨w.heap.size + 1, i, none⟩ = false := HBX.out.r.frozen)
  refine bodyPost_ret (v := .agg #[.int .i64 0, .slice none 0 0, .slice none 0 0, .slice none 0 0, .int .i64 0, .bool V]) (by simp only [results, Try.results37]; go_simp) rfl ?_
  have GB : ∀ k, (k = w.heap.size + 1 ∨ k = w.heap.size + 1 + 1) → k < W.heap.size := fun k hk => by have := HWS.out; rcases hk with rfl | rfl <;> omega
  exact ⟨_, rfl, Mid.code (fun _ => ⟨_, _, _, rfl, World.ownsRow_nil _ _ _ _, World.ownsRow_nil _ _ _ _, FilesAt.nil _ _⟩) (frame_wd (G := fun k => k = w.heap.size + 1 ∨ k = w.heap.size + 1 + 1) HWB.out (wd_grow (HD.out.below HWB.out) HB.out |>.mono fun k h => h) (Touch.of_below HB.out) (by exact (((((((Touch.refl _ _).set (Or.inr rfl) _).set (Or.inl rfl) _).set (Or.inl rfl) _).set (Or.inl rfl) _).set (Or.inl rfl) _).set (Or.inl rfl) _).set (Or.inl rfl) _) (by simp only [size_set]) HF.out (fun k hk => by have := HWS.out; rcases hk with rfl | rfl <;> omega))⟩

set_option maxRecDepth 100000 in
set_option maxHeartbeats 1000000 in
theorem hurtS_offline (q p : Nat) (X : Wnd) (S : Drv) (F : Nat → Prop) (x : PStep) (L : SLay) (w : World) (hk : x.kind = 11) (hx : x.Fits) (hd : WD w q p X S F) (hF : ∀ k, F k → k < w.heap.size) (hX : X.Ok) (hS : S.Small) :
    Calls Try.prog 37 #[.pointer (some ⟨q, 0, none⟩), .agg (stepCells x L)] w fun e w' =>
      ∃ u, e = .returned u ∧ Mid w w' q p F u Said.none_ ({ X with away := x.yes } : Wnd) S := by
  have HOK := Lib.hid hX
  have HX := Lib.hid hx
  have HD := Lib.hid hd
  have HF := Lib.hid hF
  have HS := Lib.hid hS
  obtain ⟨Y, hY⟩ : ∃ Y : Wnd, Y = { X with away := x.yes } := ⟨_, rfl⟩
  have HY := Lib.hid hY
  rw [← HY.out]
  obtain ⟨W, hW⟩ : ∃ W, W = ((w.alloc (.cells (stepCells x L) 69)).alloc (.cells zeroSaid 41)).alloc (.cells zeroSaid 41) := ⟨_, rfl⟩
  have HWB : Hid (Below w.heap.size w W) := Lib.hid (by rw [hW]; exact (((Below.refl _ w).alloc (Nat.le_refl _) _).alloc (by simp) _).alloc (by simp; omega) _)
  have HBW : Hid (Box W w.heap.size) := Lib.hid (by
    rw [hW]
    constructor
    · have := Blk.new ((w.alloc (.cells (stepCells x L) 69)).alloc (.cells zeroSaid 41)) 41 zeroSaid
      simpa using this
    · have := Blk.new (w.alloc (.cells (stepCells x L) 69)) 41 zeroSaid
      have := this.alloc (.cells zeroSaid 41)
      simpa using this)
  have HXW : Hid (Blk W w.heap.size 69 (stepCells x L)) := Lib.hid (by rw [hW]; exact ((Blk.new _ _ _).alloc _).alloc _)
  have HWS : Hid (W.heap.size = w.heap.size + 3) := Lib.hid (by rw [hW]; simp)
  unfold stepCells zeroSaid at hW
  rw [hk] at hW
  unfold stepCells
  rw [hk]
  have HW := Lib.hid hW
  clear hk hx hd hF hS hX hY hW
  go_enter Try.func37, Try.ntmps37
  go_wp2_with (go_at_call 23; rw [← HW.out]; refine (woffline_any q p X S F x.yes W (HD.out.below HWB.out)).mono ?_; rintro e w2 ⟨rfl, hd2, ht2⟩; rw [← HY.out] at hd2; have HBX := Lib.hid (HBW.out.touch ht2 HF.out); have HD2 := Lib.hid hd2; have HT2 := Lib.hid ht2; clear hd2 ht2; have b0 : w2.cell? ⟨w.heap.size + 1 + 1, 0, none⟩ = some (.int .i64 0) := HBX.out.s.cell 0; have b1 : w2.cell? ⟨w.heap.size + 1 + 1, 1, none⟩ = some (.slice none 0 0) := HBX.out.s.cell 1; have b2 : w2.cell? ⟨w.heap.size + 1 + 1, 2, none⟩ = some (.slice none 0 0) := HBX.out.s.cell 2; have b3 : w2.cell? ⟨w.heap.size + 1 + 1, 3, none⟩ = some (.slice none 0 0) := HBX.out.s.cell 3; have b4 : w2.cell? ⟨w.heap.size + 1 + 1, 4, none⟩ = some (.int .i64 0) := HBX.out.s.cell 4; have b5 : w2.cell? ⟨w.heap.size + 1 + 1, 5, none⟩ = some (.bool false) := HBX.out.s.cell 5; have bf : ∀ i, w2.frozen? ⟨w.heap.size + 1 + 1, i, none⟩ = false := HBX.out.s.frozen; have r0 : w2.cell? ⟨w.heap.size + 1, 0, none⟩ = some (.int .i64 0) := HBX.out.r.cell 0; have r1 : w2.cell? ⟨w.heap.size + 1, 1, none⟩ = some (.slice none 0 0) := HBX.out.r.cell 1; have r2 : w2.cell? ⟨w.heap.size + 1, 2, none⟩ = some (.slice none 0 0) := HBX.out.r.cell 2; have r3 : w2.cell? ⟨w.heap.size + 1, 3, none⟩ = some (.slice none 0 0) := HBX.out.r.cell 3; have r4 : w2.cell? ⟨w.heap.size + 1, 4, none⟩ = some (.int .i64 0) := HBX.out.r.cell 4; have r5 : w2.cell? ⟨w.heap.size + 1, 5, none⟩ = some (.bool false) := HBX.out.r.cell 5; have rf : ∀ i, w2.frozen? ⟨w.heap.size + 1, i, none⟩ = false := HBX.out.r.frozen)
  refine bodyPost_ret (v := .agg #[.int .i64 0, .slice none 0 0, .slice none 0 0, .slice none 0 0, .int .i64 0, .bool false]) (by simp only [results, Try.results37]; go_simp) rfl ?_
  refine ⟨_, rfl, Mid.code (fun b => Said.code_at _ b _) (frame_wd (G := fun k => k = w.heap.size + 1 ∨ k = w.heap.size + 1 + 1) HWB.out HD2.out HT2.out ?_ ?_ HF.out (fun k hk => by have := HWS.out; rcases hk with rfl | rfl <;> omega))⟩
  · exact ((((((Touch.refl _ _).set (Or.inl rfl) _).set (Or.inl rfl) _).set (Or.inl rfl) _).set (Or.inl rfl) _).set (Or.inl rfl) _).set (Or.inl rfl) _
  · simp only [size_set]

set_option maxRecDepth 100000 in
set_option maxHeartbeats 1000000 in
theorem hurtS_fuse (q p : Nat) (X : Wnd) (S : Drv) (F : Nat → Prop) (x : PStep) (L : SLay) (w : World) (hk : x.kind = 12) (hx : x.Fits) (hd : WD w q p X S F) (hF : ∀ k, F k → k < w.heap.size) (hX : X.Ok) (hS : S.Small) :
    Calls Try.prog 37 #[.pointer (some ⟨q, 0, none⟩), .agg (stepCells x L)] w fun e w' =>
      ∃ u, e = .returned u ∧ Mid w w' q p F u Said.none_ (X.setFuse x.a x.b x.c) S := by
  have HOK := Lib.hid hX
  have HX := Lib.hid hx
  have HD := Lib.hid hd
  have HF := Lib.hid hF
  have HS := Lib.hid hS
  obtain ⟨Y, hY⟩ : ∃ Y : Wnd, Y = (X.setFuse x.a x.b x.c) := ⟨_, rfl⟩
  have HY := Lib.hid hY
  rw [← HY.out]
  obtain ⟨W, hW⟩ : ∃ W, W = ((w.alloc (.cells (stepCells x L) 69)).alloc (.cells zeroSaid 41)).alloc (.cells zeroSaid 41) := ⟨_, rfl⟩
  have HWB : Hid (Below w.heap.size w W) := Lib.hid (by rw [hW]; exact (((Below.refl _ w).alloc (Nat.le_refl _) _).alloc (by simp) _).alloc (by simp; omega) _)
  have HBW : Hid (Box W w.heap.size) := Lib.hid (by
    rw [hW]
    constructor
    · have := Blk.new ((w.alloc (.cells (stepCells x L) 69)).alloc (.cells zeroSaid 41)) 41 zeroSaid
      simpa using this
    · have := Blk.new (w.alloc (.cells (stepCells x L) 69)) 41 zeroSaid
      have := this.alloc (.cells zeroSaid 41)
      simpa using this)
  have HXW : Hid (Blk W w.heap.size 69 (stepCells x L)) := Lib.hid (by rw [hW]; exact ((Blk.new _ _ _).alloc _).alloc _)
  have HWS : Hid (W.heap.size = w.heap.size + 3) := Lib.hid (by rw [hW]; simp)
  unfold stepCells zeroSaid at hW
  rw [hk] at hW
  unfold stepCells
  rw [hk]
  have HW := Lib.hid hW
  clear hk hx hd hF hS hX hY hW
  go_enter Try.func37, Try.ntmps37
  go_wp2_with (go_at_call 24; rw [← HW.out]; refine (wfuse_any q p X S F x.a x.b x.c W (HD.out.below HWB.out)).mono ?_; rintro e w2 ⟨rfl, hd2, ht2⟩; rw [← HY.out] at hd2; have HBX := Lib.hid (HBW.out.touch ht2 HF.out); have HD2 := Lib.hid hd2; have HT2 := Lib.hid ht2; clear hd2 ht2; have b0 : w2.cell? ⟨w.heap.size + 1 + 1, 0, none⟩ = some (.int .i64 0) := HBX.out.s.cell 0; have b1 : w2.cell? ⟨w.heap.size + 1 + 1, 1, none⟩ = some (.slice none 0 0) := HBX.out.s.cell 1; have b2 : w2.cell? ⟨w.heap.size + 1 + 1, 2, none⟩ = some (.slice none 0 0) := HBX.out.s.cell 2; have b3 : w2.cell? ⟨w.heap.size + 1 + 1, 3, none⟩ = some (.slice none 0 0) := HBX.out.s.cell 3; have b4 : w2.cell? ⟨w.heap.size + 1 + 1, 4, none⟩ = some (.int .i64 0) := HBX.out.s.cell 4; have b5 : w2.cell? ⟨w.heap.size + 1 + 1, 5, none⟩ = some (.bool false) := HBX.out.s.cell 5; have bf : ∀ i, w2.frozen? ⟨w.heap.size + 1 + 1, i, none⟩ = false := HBX.out.s.frozen; have r0 : w2.cell? ⟨w.heap.size + 1, 0, none⟩ = some (.int .i64 0) := HBX.out.r.cell 0; have r1 : w2.cell? ⟨w.heap.size + 1, 1, none⟩ = some (.slice none 0 0) := HBX.out.r.cell 1; have r2 : w2.cell? ⟨w.heap.size + 1, 2, none⟩ = some (.slice none 0 0) := HBX.out.r.cell 2; have r3 : w2.cell? ⟨w.heap.size + 1, 3, none⟩ = some (.slice none 0 0) := HBX.out.r.cell 3; have r4 : w2.cell? ⟨w.heap.size + 1, 4, none⟩ = some (.int .i64 0) := HBX.out.r.cell 4; have r5 : w2.cell? ⟨w.heap.size + 1, 5, none⟩ = some (.bool false) := HBX.out.r.cell 5; have rf : ∀ i, w2.frozen? ⟨w.heap.size + 1, i, none⟩ = false := HBX.out.r.frozen)
  refine bodyPost_ret (v := .agg #[.int .i64 0, .slice none 0 0, .slice none 0 0, .slice none 0 0, .int .i64 0, .bool false]) (by simp only [results, Try.results37]; go_simp) rfl ?_
  refine ⟨_, rfl, Mid.code (fun b => Said.code_at _ b _) (frame_wd (G := fun k => k = w.heap.size + 1 ∨ k = w.heap.size + 1 + 1) HWB.out HD2.out HT2.out ?_ ?_ HF.out (fun k hk => by have := HWS.out; rcases hk with rfl | rfl <;> omega))⟩
  · exact ((((((Touch.refl _ _).set (Or.inl rfl) _).set (Or.inl rfl) _).set (Or.inl rfl) _).set (Or.inl rfl) _).set (Or.inl rfl) _).set (Or.inl rfl) _
  · simp only [size_set]

set_option maxRecDepth 100000 in
set_option maxHeartbeats 1000000 in
theorem hurtS_rest (q p : Nat) (X : Wnd) (S : Drv) (F : Nat → Prop) (x : PStep) (L : SLay) (w : World) (hk : x.kind = 14) (hx : x.Fits) (hd : WD w q p X S F) (hF : ∀ k, F k → k < w.heap.size) (hX : X.Ok) (hS : S.Small) :
    Calls Try.prog 37 #[.pointer (some ⟨q, 0, none⟩), .agg (stepCells x L)] w fun e w' =>
      ∃ u, e = .returned u ∧ Mid w w' q p F u Said.none_ (X.rest x.yes) S := by
  have HOK := Lib.hid hX
  have HX := Lib.hid hx
  have HD := Lib.hid hd
  have HF := Lib.hid hF
  have HS := Lib.hid hS
  obtain ⟨Y, hY⟩ : ∃ Y : Wnd, Y = (X.rest x.yes) := ⟨_, rfl⟩
  have HY := Lib.hid hY
  rw [← HY.out]
  obtain ⟨W, hW⟩ : ∃ W, W = ((w.alloc (.cells (stepCells x L) 69)).alloc (.cells zeroSaid 41)).alloc (.cells zeroSaid 41) := ⟨_, rfl⟩
  have HWB : Hid (Below w.heap.size w W) := Lib.hid (by rw [hW]; exact (((Below.refl _ w).alloc (Nat.le_refl _) _).alloc (by simp) _).alloc (by simp; omega) _)
  have HBW : Hid (Box W w.heap.size) := Lib.hid (by
    rw [hW]
    constructor
    · have := Blk.new ((w.alloc (.cells (stepCells x L) 69)).alloc (.cells zeroSaid 41)) 41 zeroSaid
      simpa using this
    · have := Blk.new (w.alloc (.cells (stepCells x L) 69)) 41 zeroSaid
      have := this.alloc (.cells zeroSaid 41)
      simpa using this)
  have HXW : Hid (Blk W w.heap.size 69 (stepCells x L)) := Lib.hid (by rw [hW]; exact ((Blk.new _ _ _).alloc _).alloc _)
  have HWS : Hid (W.heap.size = w.heap.size + 3) := Lib.hid (by rw [hW]; simp)
  unfold stepCells zeroSaid at hW
  rw [hk] at hW
  unfold stepCells
  rw [hk]
  have HW := Lib.hid hW
  clear hk hx hd hF hS hX hY hW
  go_enter Try.func37, Try.ntmps37
  go_wp2_with (go_at_call 25; rw [← HW.out]; refine (wrest_any q p X S F x.yes W (HD.out.below HWB.out) HOK.out).mono ?_; rintro e w2 ⟨rfl, hd2, ht2⟩; rw [← HY.out] at hd2; have HBX := Lib.hid (HBW.out.touch ht2 HF.out); have HD2 := Lib.hid hd2; have HT2 := Lib.hid ht2; clear hd2 ht2; have b0 : w2.cell? ⟨w.heap.size + 1 + 1, 0, none⟩ = some (.int .i64 0) := HBX.out.s.cell 0; have b1 : w2.cell? ⟨w.heap.size + 1 + 1, 1, none⟩ = some (.slice none 0 0) := HBX.out.s.cell 1; have b2 : w2.cell? ⟨w.heap.size + 1 + 1, 2, none⟩ = some (.slice none 0 0) := HBX.out.s.cell 2; have b3 : w2.cell? ⟨w.heap.size + 1 + 1, 3, none⟩ = some (.slice none 0 0) := HBX.out.s.cell 3; have b4 : w2.cell? ⟨w.heap.size + 1 + 1, 4, none⟩ = some (.int .i64 0) := HBX.out.s.cell 4; have b5 : w2.cell? ⟨w.heap.size + 1 + 1, 5, none⟩ = some (.bool false) := HBX.out.s.cell 5; have bf : ∀ i, w2.frozen? ⟨w.heap.size + 1 + 1, i, none⟩ = false := HBX.out.s.frozen; have r0 : w2.cell? ⟨w.heap.size + 1, 0, none⟩ = some (.int .i64 0) := HBX.out.r.cell 0; have r1 : w2.cell? ⟨w.heap.size + 1, 1, none⟩ = some (.slice none 0 0) := HBX.out.r.cell 1; have r2 : w2.cell? ⟨w.heap.size + 1, 2, none⟩ = some (.slice none 0 0) := HBX.out.r.cell 2; have r3 : w2.cell? ⟨w.heap.size + 1, 3, none⟩ = some (.slice none 0 0) := HBX.out.r.cell 3; have r4 : w2.cell? ⟨w.heap.size + 1, 4, none⟩ = some (.int .i64 0) := HBX.out.r.cell 4; have r5 : w2.cell? ⟨w.heap.size + 1, 5, none⟩ = some (.bool false) := HBX.out.r.cell 5; have rf : ∀ i, w2.frozen? ⟨w.heap.size + 1, i, none⟩ = false := HBX.out.r.frozen)
  refine bodyPost_ret (v := .agg #[.int .i64 0, .slice none 0 0, .slice none 0 0, .slice none 0 0, .int .i64 0, .bool false]) (by simp only [results, Try.results37]; go_simp) rfl ?_
  refine ⟨_, rfl, Mid.code (fun b => Said.code_at _ b _) (frame_wd (G := fun k => k = w.heap.size + 1 ∨ k = w.heap.size + 1 + 1) HWB.out HD2.out HT2.out ?_ ?_ HF.out (fun k hk => by have := HWS.out; rcases hk with rfl | rfl <;> omega))⟩
  · exact ((((((Touch.refl _ _).set (Or.inl rfl) _).set (Or.inl rfl) _).set (Or.inl rfl) _).set (Or.inl rfl) _).set (Or.inl rfl) _).set (Or.inl rfl) _
  · simp only [size_set]

set_option maxRecDepth 100000 in
set_option maxHeartbeats 1000000 in
theorem hurtS_power (q p : Nat) (X : Wnd) (S : Drv) (F : Nat → Prop) (x : PStep) (L : SLay) (w : World) (hk : x.kind = 15) (hx : x.Fits) (hd : WD w q p X S F) (hF : ∀ k, F k → k < w.heap.size) (hX : X.Ok) (hS : S.Small) :
    Calls Try.prog 37 #[.pointer (some ⟨q, 0, none⟩), .agg (stepCells x L)] w fun e w' =>
      ∃ u, e = .returned u ∧ Mid w w' q p F u Said.none_ ({ X with down := !x.yes } : Wnd) S := by
  have HOK := Lib.hid hX
  have HX := Lib.hid hx
  have HD := Lib.hid hd
  have HF := Lib.hid hF
  have HS := Lib.hid hS
  obtain ⟨Y, hY⟩ : ∃ Y : Wnd, Y = { X with down := !x.yes } := ⟨_, rfl⟩
  have HY := Lib.hid hY
  rw [← HY.out]
  obtain ⟨W, hW⟩ : ∃ W, W = ((w.alloc (.cells (stepCells x L) 69)).alloc (.cells zeroSaid 41)).alloc (.cells zeroSaid 41) := ⟨_, rfl⟩
  have HWB : Hid (Below w.heap.size w W) := Lib.hid (by rw [hW]; exact (((Below.refl _ w).alloc (Nat.le_refl _) _).alloc (by simp) _).alloc (by simp; omega) _)
  have HBW : Hid (Box W w.heap.size) := Lib.hid (by
    rw [hW]
    constructor
    · have := Blk.new ((w.alloc (.cells (stepCells x L) 69)).alloc (.cells zeroSaid 41)) 41 zeroSaid
      simpa using this
    · have := Blk.new (w.alloc (.cells (stepCells x L) 69)) 41 zeroSaid
      have := this.alloc (.cells zeroSaid 41)
      simpa using this)
  have HXW : Hid (Blk W w.heap.size 69 (stepCells x L)) := Lib.hid (by rw [hW]; exact ((Blk.new _ _ _).alloc _).alloc _)
  have HWS : Hid (W.heap.size = w.heap.size + 3) := Lib.hid (by rw [hW]; simp)
  unfold stepCells zeroSaid at hW
  rw [hk] at hW
  unfold stepCells
  rw [hk]
  have HW := Lib.hid hW
  clear hk hx hd hF hS hX hY hW
  go_enter Try.func37, Try.ntmps37
  go_wp2_with (go_at_call 26; rw [← HW.out]; refine (wpower_any q p X S F x.yes W (HD.out.below HWB.out)).mono ?_; rintro e w2 ⟨rfl, hd2, ht2⟩; rw [← HY.out] at hd2; have HBX := Lib.hid (HBW.out.touch ht2 HF.out); have HD2 := Lib.hid hd2; have HT2 := Lib.hid ht2; clear hd2 ht2; have b0 : w2.cell? ⟨w.heap.size + 1 + 1, 0, none⟩ = some (.int .i64 0) := HBX.out.s.cell 0; have b1 : w2.cell? ⟨w.heap.size + 1 + 1, 1, none⟩ = some (.slice none 0 0) := HBX.out.s.cell 1; have b2 : w2.cell? ⟨w.heap.size + 1 + 1, 2, none⟩ = some (.slice none 0 0) := HBX.out.s.cell 2; have b3 : w2.cell? ⟨w.heap.size + 1 + 1, 3, none⟩ = some (.slice none 0 0) := HBX.out.s.cell 3; have b4 : w2.cell? ⟨w.heap.size + 1 + 1, 4, none⟩ = some (.int .i64 0) := HBX.out.s.cell 4; have b5 : w2.cell? ⟨w.heap.size + 1 + 1, 5, none⟩ = some (.bool false) := HBX.out.s.cell 5; have bf : ∀ i, w2.frozen? ⟨w.heap.size + 1 + 1, i, none⟩ = false := HBX.out.s.frozen; have r0 : w2.cell? ⟨w.heap.size + 1, 0, none⟩ = some (.int .i64 0) := HBX.out.r.cell 0; have r1 : w2.cell? ⟨w.heap.size + 1, 1, none⟩ = some (.slice none 0 0) := HBX.out.r.cell 1; have r2 : w2.cell? ⟨w.heap.size + 1, 2, none⟩ = some (.slice none 0 0) := HBX.out.r.cell 2; have r3 : w2.cell? ⟨w.heap.size + 1, 3, none⟩ = some (.slice none 0 0) := HBX.out.r.cell 3; have r4 : w2.cell? ⟨w.heap.size + 1, 4, none⟩ = some (.int .i64 0) := HBX.out.r.cell 4; have r5 : w2.cell? ⟨w.heap.size + 1, 5, none⟩ = some (.bool false) := HBX.out.r.cell 5; have rf : ∀ i, w2.frozen? ⟨w.heap.size + 1, i, none⟩ = false := HBX.out.r.frozen)
  refine bodyPost_ret (v := .agg #[.int .i64 0, .slice none 0 0, .slice none 0 0, .slice none 0 0, .int .i64 0, .bool false]) (by simp only [results, Try.results37]; go_simp) rfl ?_
  refine ⟨_, rfl, Mid.code (fun b => Said.code_at _ b _) (frame_wd (G := fun k => k = w.heap.size + 1 ∨ k = w.heap.size + 1 + 1) HWB.out HD2.out HT2.out ?_ ?_ HF.out (fun k hk => by have := HWS.out; rcases hk with rfl | rfl <;> omega))⟩
  · exact ((((((Touch.refl _ _).set (Or.inl rfl) _).set (Or.inl rfl) _).set (Or.inl rfl) _).set (Or.inl rfl) _).set (Or.inl rfl) _).set (Or.inl rfl) _
  · simp only [size_set]

set_option maxRecDepth 100000 in
set_option maxHeartbeats 1000000 in
theorem hurtS_arm (q p : Nat) (X : Wnd) (S : Drv) (F : Nat → Prop) (x : PStep) (L : SLay) (w : World) (hk : x.kind = 9) (hx : x.Fits) (hd : WD w q p X S F) (hF : ∀ k, F k → k < w.heap.size) (hX : X.Ok) (hS : S.Small) (B : Nat) (hB : B ≤ w.heap.size) (hxa : StepAt w B L x) (hap : 0 < x.plan.length → ∀ ad, L.pp = some ad → ¬F ad.block) :
    Calls Try.prog 37 #[.pointer (some ⟨q, 0, none⟩), .agg (stepCells x L)] w fun e w' =>
      ∃ u, e = .returned u ∧ Mid w w' q p F u Said.none_ (X.arm x.plan) S := by
  have HOK := Lib.hid hX
  have HX := Lib.hid hx
  have HD := Lib.hid hd
  have HF := Lib.hid hF
  have HS := Lib.hid hS
  obtain ⟨Y, hY⟩ : ∃ Y : Wnd, Y = (X.arm x.plan) := ⟨_, rfl⟩
  have HY := Lib.hid hY
  rw [← HY.out]
  have HXA := Lib.hid hxa
  have HAP := Lib.hid hap
  obtain ⟨W, hW⟩ : ∃ W, W = ((w.alloc (.cells (stepCells x L) 69)).alloc (.cells zeroSaid 41)).alloc (.cells zeroSaid 41) := ⟨_, rfl⟩
  have HWB : Hid (Below w.heap.size w W) := Lib.hid (by rw [hW]; exact (((Below.refl _ w).alloc (Nat.le_refl _) _).alloc (by simp) _).alloc (by simp; omega) _)
  have HBW : Hid (Box W w.heap.size) := Lib.hid (by
    rw [hW]
    constructor
    · have := Blk.new ((w.alloc (.cells (stepCells x L) 69)).alloc (.cells zeroSaid 41)) 41 zeroSaid
      simpa using this
    · have := Blk.new (w.alloc (.cells (stepCells x L) 69)) 41 zeroSaid
      have := this.alloc (.cells zeroSaid 41)
      simpa using this)
  have HXW : Hid (Blk W w.heap.size 69 (stepCells x L)) := Lib.hid (by rw [hW]; exact ((Blk.new _ _ _).alloc _).alloc _)
  have HWS : Hid (W.heap.size = w.heap.size + 3) := Lib.hid (by rw [hW]; simp)
  unfold stepCells zeroSaid at hW
  rw [hk] at hW
  unfold stepCells
  rw [hk]
  have HW := Lib.hid hW
  clear hk hx hd hF hS hX hY hxa hap hW
  go_enter Try.func37, Try.ntmps37
  go_wp2_with (go_at_call 22; rw [← HW.out]; refine (warm_any q p X S F L.pp x.plan.length L.cp x.plan W (HD.out.below HWB.out) ((HXA.out.plan.below (HWB.out.mono hB)).more (Nat.le_trans hB HWB.out.size)) HAP.out HX.out.plan).mono ?_; rintro e w2 ⟨rfl, hd2, ht2⟩; rw [← HY.out] at hd2; have HBX := Lib.hid (HBW.out.touch ht2 HF.out); have HD2 := Lib.hid hd2; have HT2 := Lib.hid ht2; clear hd2 ht2; have b0 : w2.cell? ⟨w.heap.size + 1 + 1, 0, none⟩ = some (.int .i64 0) := HBX.out.s.cell 0; have b1 : w2.cell? ⟨w.heap.size + 1 + 1, 1, none⟩ = some (.slice none 0 0) := HBX.out.s.cell 1; have b2 : w2.cell? ⟨w.heap.size + 1 + 1, 2, none⟩ = some (.slice none 0 0) := HBX.out.s.cell 2; have b3 : w2.cell? ⟨w.heap.size + 1 + 1, 3, none⟩ = some (.slice none 0 0) := HBX.out.s.cell 3; have b4 : w2.cell? ⟨w.heap.size + 1 + 1, 4, none⟩ = some (.int .i64 0) := HBX.out.s.cell 4; have b5 : w2.cell? ⟨w.heap.size + 1 + 1, 5, none⟩ = some (.bool false) := HBX.out.s.cell 5; have bf : ∀ i, w2.frozen? ⟨w.heap.size + 1 + 1, i, none⟩ = false := HBX.out.s.frozen; have r0 : w2.cell? ⟨w.heap.size + 1, 0, none⟩ = some (.int .i64 0) := HBX.out.r.cell 0; have r1 : w2.cell? ⟨w.heap.size + 1, 1, none⟩ = some (.slice none 0 0) := HBX.out.r.cell 1; have r2 : w2.cell? ⟨w.heap.size + 1, 2, none⟩ = some (.slice none 0 0) := HBX.out.r.cell 2; have r3 : w2.cell? ⟨w.heap.size + 1, 3, none⟩ = some (.slice none 0 0) := HBX.out.r.cell 3; have r4 : w2.cell? ⟨w.heap.size + 1, 4, none⟩ = some (.int .i64 0) := HBX.out.r.cell 4; have r5 : w2.cell? ⟨w.heap.size + 1, 5, none⟩ = some (.bool false) := HBX.out.r.cell 5; have rf : ∀ i, w2.frozen? ⟨w.heap.size + 1, i, none⟩ = false := HBX.out.r.frozen)
  refine bodyPost_ret (v := .agg #[.int .i64 0, .slice none 0 0, .slice none 0 0, .slice none 0 0, .int .i64 0, .bool false]) (by simp only [results, Try.results37]; go_simp) rfl ?_
  refine ⟨_, rfl, Mid.code (fun b => Said.code_at _ b _) (frame_wd (G := fun k => k = w.heap.size + 1 ∨ k = w.heap.size + 1 + 1) HWB.out HD2.out HT2.out ?_ ?_ HF.out (fun k hk => by have := HWS.out; rcases hk with rfl | rfl <;> omega))⟩
  · exact ((((((Touch.refl _ _).set (Or.inl rfl) _).set (Or.inl rfl) _).set (Or.inl rfl) _).set (Or.inl rfl) _).set (Or.inl rfl) _).set (Or.inl rfl) _
  · simp only [size_set]
end Go.Proofs.Ytdmcjomcbhdcbaa
namespace Go.Proofs.Ytdmcjomcbhdcbaa
open Go.RowKit Go.Maps

set_option maxRecDepth 100000 in
set_option maxHeartbeats 1000000 in
theorem hurtS_other (q p : Nat) (X : Wnd) (S : Drv) (F : Nat → Prop) (x : PStep) (L : SLay) (w : World) (hk : ¬(1 ≤ x.kind ∧ x.kind ≤ 16)) (hx : x.Fits) (hd : WD w q p X S F) (hF : ∀ k, F k → k < w.heap.size) (hX : X.Ok) (hS : S.Small) (N : Nat) (hI : S.Inv N) (hN : N ≤ 2199023254000) (B : Nat) (hB : B ≤ w.heap.size) (hxa : StepAt w B L x) :
    Calls Try.prog 37 #[.pointer (some ⟨q, 0, none⟩), .agg (stepCells x L)] w fun e w' =>
      ∃ u, e = .returned u ∧ Mid w w' q p F u (plain25 S x).2 X (plain25 S x).1 := by
  have HOK := Lib.hid hX
  have n1 : x.kind ≠ 1 := by omega
  have n2 : x.kind ≠ 2 := by omega
  have n3 : x.kind ≠ 3 := by omega
  have n4 : x.kind ≠ 4 := by omega
  have n5 : x.kind ≠ 5 := by omega
  have n6 : x.kind ≠ 6 := by omega
  have n7 : x.kind ≠ 7 := by omega
  have n8 : x.kind ≠ 8 := by omega
  have n9 : x.kind ≠ 9 := by omega
  have n10 : x.kind ≠ 10 := by omega
  have n11 : x.kind ≠ 11 := by omega
  have n12 : x.kind ≠ 12 := by omega
  have n13 : x.kind ≠ 13 := by omega
  have n14 : x.kind ≠ 14 := by omega
  have n15 : x.kind ≠ 15 := by omega
  have n16 : x.kind ≠ 16 := by omega
  have h8 : ¬(1 ≤ x.kind ∧ x.kind ≤ 8) := by omega
  have HXA := Lib.hid hxa
  have HI := Lib.hid hI
  have H8 := Lib.hid h8
  have HX := Lib.hid hx
  have HD := Lib.hid hd
  have HF := Lib.hid hF
  have HS := Lib.hid hS
  obtain ⟨W, hW⟩ : ∃ W, W = ((w.alloc (.cells (stepCells x L) 69)).alloc (.cells zeroSaid 41)).alloc (.cells zeroSaid 41) := ⟨_, rfl⟩
  have HWB : Hid (Below w.heap.size w W) := Lib.hid (by rw [hW]; exact (((Below.refl _ w).alloc (Nat.le_refl _) _).alloc (by simp) _).alloc (by simp; omega) _)
  have HBW : Hid (Box W w.heap.size) := Lib.hid (by
    rw [hW]
    constructor
    · have := Blk.new ((w.alloc (.cells (stepCells x L) 69)).alloc (.cells zeroSaid 41)) 41 zeroSaid
      simpa using this
    · have := Blk.new (w.alloc (.cells (stepCells x L) 69)) 41 zeroSaid
      have := this.alloc (.cells zeroSaid 41)
      simpa using this)
  have HXW : Hid (Blk W w.heap.size 69 (stepCells x L)) := Lib.hid (by rw [hW]; exact ((Blk.new _ _ _).alloc _).alloc _)
  have HWS : Hid (W.heap.size = w.heap.size + 3) := Lib.hid (by rw [hW]; simp)
  unfold stepCells zeroSaid at hW
  unfold stepCells
  have HW := Lib.hid hW
  obtain ⟨Z, hZ⟩ : ∃ Z, Z = (plain25 S x).2 := ⟨_, rfl⟩
  have HZ := Lib.hid hZ
  rw [← HZ.out]
  obtain ⟨T, hT⟩ : ∃ T, T = (plain25 S x).1 := ⟨_, rfl⟩
  have HT := Lib.hid hT
  rw [← HT.out]
  clear hk hx hd hF hS hX hI hxa h8 hZ hT hW
  go_enter Try.func37, Try.ntmps37
  go_wp2_with fail
  rw [← HW.out]
  refine (promotedS_any q p X S N F x L W B H8.out HX.out (HD.out.below HWB.out) (fun k hk => Nat.lt_of_lt_of_le (HF.out k hk) HWB.out.size) HI.out hN (Nat.le_trans hB HWB.out.size) (HXA.out.below' (HWB.out.mono hB))).mono ?_
  rintro e w2 ⟨u, rfl, hmid⟩
  have HMID := Lib.hid hmid
  obtain ⟨hs2, hd2, ht2⟩ := hmid.weak
  clear hmid
  rw [← HZ.out] at hs2 HMID
  rw [← HT.out] at hd2 HMID
  have HBX := Lib.hid (HBW.out.touch ht2 HF.out)
  have HD2 := Lib.hid hd2
  have HT2 := Lib.hid ht2
  have HS2 := Lib.hid hs2
  obtain ⟨dv, mv, fv, rfl, r1, r2, r3⟩ := hs2
  obtain ⟨da, dc, rfl, _⟩ := own_shape r1
  obtain ⟨ma, mc, rfl, _⟩ := own_shape r2
  obtain ⟨fa, fc, rfl, _⟩ := r3.shape
  obtain ⟨E, hE⟩ : ∃ E, E = Z.e := ⟨_, rfl⟩
  obtain ⟨NN, hNN⟩ : ∃ E, E = Z.n := ⟨_, rfl⟩
  obtain ⟨YY, hYY⟩ : ∃ E, E = Z.yes := ⟨_, rfl⟩
  obtain ⟨dn, hdn⟩ : ∃ E, E = Z.data.length := ⟨_, rfl⟩
  obtain ⟨mn, hmn⟩ : ∃ E, E = Z.names.length := ⟨_, rfl⟩
  obtain ⟨fn, hfn⟩ : ∃ E, E = Z.files.length := ⟨_, rfl⟩
  rw [← hE, ← hNN, ← hYY, ← hdn, ← hmn, ← hfn] at HS2 HMID ⊢
  clear hd2 ht2 r1 r2 r3 hE hNN hYY hdn hmn hfn
  have b0 : w2.cell? ⟨w.heap.size + 1 + 1, 0, none⟩ = some (.int .i64 0) := HBX.out.s.cell 0
  have b1 : w2.cell? ⟨w.heap.size + 1 + 1, 1, none⟩ = some (.slice none 0 0) := HBX.out.s.cell 1
  have b2 : w2.cell? ⟨w.heap.size + 1 + 1, 2, none⟩ = some (.slice none 0 0) := HBX.out.s.cell 2
  have b3 : w2.cell? ⟨w.heap.size + 1 + 1, 3, none⟩ = some (.slice none 0 0) := HBX.out.s.cell 3
  have b4 : w2.cell? ⟨w.heap.size + 1 + 1, 4, none⟩ = some (.int .i64 0) := HBX.out.s.cell 4
  have b5 : w2.cell? ⟨w.heap.size + 1 + 1, 5, none⟩ = some (.bool false) := HBX.out.s.cell 5
  have bf : ∀ i, w2.frozen? ⟨w.heap.size + 1 + 1, i, none⟩ = false := HBX.out.s.frozen
  have r0 : w2.cell? ⟨w.heap.size + 1, 0, none⟩ = some (.int .i64 0) := HBX.out.r.cell 0
  have r1 : w2.cell? ⟨w.heap.size + 1, 1, none⟩ = some (.slice none 0 0) := HBX.out.r.cell 1
  have r2 : w2.cell? ⟨w.heap.size + 1, 2, none⟩ = some (.slice none 0 0) := HBX.out.r.cell 2
  have r3 : w2.cell? ⟨w.heap.size + 1, 3, none⟩ = some (.slice none 0 0) := HBX.out.r.cell 3
  have r4 : w2.cell? ⟨w.heap.size + 1, 4, none⟩ = some (.int .i64 0) := HBX.out.r.cell 4
  have r5 : w2.cell? ⟨w.heap.size + 1, 5, none⟩ = some (.bool false) := HBX.out.r.cell 5
  have rf : ∀ i, w2.frozen? ⟨w.heap.size + 1, i, none⟩ = false := HBX.out.r.frozen
  go_wp2
  refine bodyPost_ret (v := .agg #[.int .i64 E, .slice da dn dc, .slice ma mn mc, .slice fa fn fc, .int .i64 NN, .bool YY]) (by simp only [results, Try.results37]; go_simp) rfl ?_
  have GB : ∀ k, (k = w.heap.size + 1 ∨ k = w.heap.size + 1 + 1) → k < W.heap.size := fun k hk => by have := HWS.out; rcases hk with rfl | rfl <;> omega
  exact ⟨_, rfl, Mid.frame (G := fun k => k = w.heap.size + 1 ∨ k = w.heap.size + 1 + 1) HWB.out HMID.out (by exact (((((((((((((Touch.refl _ _).set (Or.inr rfl) _).set (Or.inr rfl) _).set (Or.inr rfl) _).set (Or.inr rfl) _).set (Or.inr rfl) _).set (Or.inr rfl) _).set (Or.inl rfl) _).set (Or.inl rfl) _).set (Or.inl rfl) _).set (Or.inl rfl) _).set (Or.inl rfl) _).set (Or.inl rfl) _)) (by simp only [size_set]) HF.out (fun k hk => by have := HWS.out; rcases hk with rfl | rfl <;> omega)⟩

theorem hurt8S_any (q p : Nat) (X : Wnd) (S : Drv) (F : Nat → Prop) (x : PStep) (L : SLay) (w : World) (B : Nat) (hk : 1 ≤ x.kind ∧ x.kind ≤ 8) (hx : x.Fits) (hd : WD w q p X S F) (hF : ∀ k, F k → k < w.heap.size) (hX : X.Ok) (hS : S.Small) (hB : B ≤ w.heap.size) (hxa : StepAt w B L x) :
    Calls Try.prog 37 #[.pointer (some ⟨q, 0, none⟩), .agg (stepCells x L)] w fun e w' =>
      ∃ u, e = .returned u ∧ Mid w w' q p F u (hurt8 X S x).2.2 (hurt8 X S x).1 (hurt8 X S x).2.1 := by
  rcases (show x.kind = 1 ∨ x.kind = 2 ∨ x.kind = 3 ∨ x.kind = 4 ∨ x.kind = 5 ∨ x.kind = 6 ∨ x.kind = 7 ∨ x.kind = 8 by omega) with h | h | h | h | h | h | h | h
  · have e : hurt8 X S x = ((wcall X S true (S.create x.nm)).1, (wcall X S true (S.create x.nm)).2.1, .code (wcall X S true (S.create x.nm)).2.2) := by unfold hurt8; rw [if_pos h]
    rw [e]; exact hurtS_create q p X S F x L w h hx hd hF hX hS
  · have e : hurt8 X S x = ((wappend X S x.nm x.data).1, (wappend X S x.nm x.data).2.1, .code (wappend X S x.nm x.data).2.2) := by unfold hurt8; rw [if_neg (by omega), if_pos h]
    rw [e]; exact hurtS_append q p X S F x L w h hx hd hF hX hS B hB hxa
  · have e : hurt8 X S x = ((wcall X S false (S.sync x.nm)).1, (wcall X S false (S.sync x.nm)).2.1, .code (wcall X S false (S.sync x.nm)).2.2) := by unfold hurt8; rw [if_neg (by omega), if_neg (by omega), if_pos h]
    rw [e]; exact hurtS_sync q p X S F x L w h hx hd hF hX hS
  · have e : hurt8 X S x = ((wcall X S false (S.rename x.nm x.tn)).1, (wcall X S false (S.rename x.nm x.tn)).2.1, .code (wcall X S false (S.rename x.nm x.tn)).2.2) := by unfold hurt8; rw [if_neg (by omega), if_neg (by omega), if_neg (by omega), if_pos h]
    rw [e]; exact hurtS_rename q p X S F x L w h hx hd hF hX hS
  · have e : hurt8 X S x = ((wcall X S false (S.remove x.nm)).1, (wcall X S false (S.remove x.nm)).2.1, .code (wcall X S false (S.remove x.nm)).2.2) := by unfold hurt8; rw [if_neg (by omega), if_neg (by omega), if_neg (by omega), if_neg (by omega), if_pos h]
    rw [e]; exact hurtS_remove q p X S F x L w h hx hd hF hX hS
  · have e : hurt8 X S x = ((wcall X S false (S.syncDir, 0)).1, (wcall X S false (S.syncDir, 0)).2.1, .code (wcall X S false (S.syncDir, 0)).2.2) := by unfold hurt8; rw [if_neg (by omega), if_neg (by omega), if_neg (by omega), if_neg (by omega), if_neg (by omega), if_pos h]
    rw [e]; exact hurtS_syncDir q p X S F x L w h hx hd hF hX hS
  · have e : hurt8 X S x = ((wread X (S.read x.nm)).1, S, { Said.none_ with data := (wread X (S.read x.nm)).2.1, e := (wread X (S.read x.nm)).2.2 }) := by unfold hurt8; rw [if_neg (by omega), if_neg (by omega), if_neg (by omega), if_neg (by omega), if_neg (by omega), if_neg (by omega), if_pos h]
    rw [e]; exact hurtS_read q p X S F x L w h hx hd hF hX hS
  · have e : hurt8 X S x = ((wread X (dnames S.now, (0 : Int))).1, S, { Said.none_ with names := (wread X (dnames S.now, (0 : Int))).2.1, e := (wread X (dnames S.now, (0 : Int))).2.2 }) := by unfold hurt8; rw [if_neg (by omega), if_neg (by omega), if_neg (by omega), if_neg (by omega), if_neg (by omega), if_neg (by omega), if_neg (by omega), if_pos h]
    rw [e]; exact hurtS_list q p X S F x L w h hx hd hF hX hS


theorem hurt25S_any (q p : Nat) (X : Wnd) (S : Drv) (N : Nat) (F : Nat → Prop) (x : PStep) (L : SLay) (w : World) (B : Nat) (hx : x.Fits) (hd : WD w q p X S F) (hF : ∀ k, F k → k < w.heap.size) (hX : X.Ok) (hI : S.Inv N) (hN : N ≤ 2199023254000) (hB : B ≤ w.heap.size) (hxa : StepAt w B L x) (hap : 0 < x.plan.length → ∀ ad, L.pp = some ad → ¬F ad.block) :
    Calls Try.prog 37 #[.pointer (some ⟨q, 0, none⟩), .agg (stepCells x L)] w fun e w' =>
      ∃ u, e = .returned u ∧ Mid w w' q p F u (hurt25 X S x).2.2 (hurt25 X S x).1 (hurt25 X S x).2.1 := by
  have hS := hI.small hN
  by_cases h8 : 1 ≤ x.kind ∧ x.kind ≤ 8
  · rw [hurt25_call h8]; exact hurt8S_any q p X S F x L w B h8 hx hd hF hX hS hB hxa
  · by_cases h : 1 ≤ x.kind ∧ x.kind ≤ 16
    · rcases (show x.kind = 9 ∨ x.kind = 10 ∨ x.kind = 11 ∨ x.kind = 12 ∨ x.kind = 13 ∨ x.kind = 14 ∨ x.kind = 15 ∨ x.kind = 16 by omega) with h | h | h | h | h | h | h | h
      · rw [hurt25_arm h]; exact hurtS_arm q p X S F x L w h hx hd hF hX hS B hB hxa hap
      · rw [hurt25_calls h]; exact hurtS_calls q p X S F x L w h hx hd hF hX hS
      · rw [hurt25_offline h]; exact hurtS_offline q p X S F x L w h hx hd hF hX hS
      · rw [hurt25_fuse h]; exact hurtS_fuse q p X S F x L w h hx hd hF hX hS
      · rw [hurt25_lit h]; exact hurtS_lit q p X S F x L w h hx hd hF hX hS
      · rw [hurt25_rest h]; exact hurtS_rest q p X S F x L w h hx hd hF hX hS
      · rw [hurt25_power h]; exact hurtS_power q p X S F x L w h hx hd hF hX hS
      · rw [hurt25_on h]; exact hurtS_on q p X S F x L w h hx hd hF hX hS
    · rw [hurt25_own h]; exact hurtS_other q p X S F x L w h hx hd hF hX hS N hI hN B hB hxa

end Go.Proofs.Ytdmcjomcbhdcbaa
