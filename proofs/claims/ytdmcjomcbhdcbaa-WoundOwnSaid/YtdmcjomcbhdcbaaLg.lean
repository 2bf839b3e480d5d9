/- The law's helper 'hurt', at each of the eight calls. -/
import Derived.Test.YtdmcjomcbhdcbaaLf
namespace Go.Proofs.Ytdmcjomcbhdcbaa
open Go.RowKit Go.Maps

theorem WD.below {w W : World} {q p : Nat} {X : Wnd} {S : Drv} {F : Nat → Prop} (h : WD w q p X S F) (hb : Below w.heap.size w W) : WD W q p X S F :=
  h.keep (Touch.of_below (F := fun _ => False) hb) fun _ _ h => h
theorem frame_wd {w W w2 X : World} {q p : Nat} {Y : Wnd} {S : Drv} {F G : Nat → Prop} (hW : Below w.heap.size w W) (hd : WD w2 q p Y S (grow F W w2)) (ht : Touch F W w2) (hX : Touch G w2 X) (hsz : X.heap.size = w2.heap.size)
    (hF : ∀ k, F k → k < w.heap.size) (hG : ∀ k, G k → w.heap.size ≤ k ∧ k < W.heap.size) : WD X q p Y S (grow F w X) ∧ Touch F w X := by
  refine ⟨(hd.keep hX fun k hk hg => ?_).mono fun k hk => ?_, ?_⟩
  · have := hG k hg
    rcases hk with hk | hk
    · have := hF k hk; omega
    · omega
  · rcases hk with hk | hk
    · exact .inl hk
    · refine .inr ⟨by have := hW.size; omega, by rw [hsz]; exact hk.2⟩
  · refine ⟨hX.os.trans (ht.os.trans hW.os), hX.tape.trans (ht.tape.trans hW.tape), hX.output.trans (ht.output.trans hW.output), by have := hX.size; have := ht.size; have := hW.size; omega, fun k hk hn => ?_⟩
    have h1 := hW.size
    have h2 := ht.size
    exact (hX.block k (by omega) fun hg => by have := hG k hg; omega).trans ((ht.block k (by omega) hn).trans (hW.block k hk))
theorem own_lo {w : World} {base : Nat} {e : TypeId} {s n c : Nat} {ad : Addr} {xs : List Value} (h : w.ownsRow base e s (.slice (some ad) n c) n xs) : base ≤ ad.block := by
  rcases h.2 with ⟨h1, _⟩ | ⟨g, cap, cur, h1, hb, _⟩
  · cases h1
  · injection h1 with h1; injection h1 with h1; subst h1; exact hb

set_option maxRecDepth 100000 in
set_option maxHeartbeats 1000000 in
theorem hurt_create (q p : Nat) (X : Wnd) (S : Drv) (F : Nat → Prop) (x : PStep) (L : SLay) (w : World) (hk : x.kind = 1) (hx : x.Fits) (hd : WD w q p X S F) (hF : ∀ k, F k → k < w.heap.size) (hX : X.Ok) (hS : S.Small) :
    Calls Try.prog 37 #[.pointer (some ⟨q, 0, none⟩), .agg (stepCells x L)] w fun e w' =>
      ∃ u, e = .returned u ∧ SaidAt w' w.heap.size u (.code (wcall X S true (S.create x.nm)).2.2) ∧ WD w' q p (wcall X S true (S.create x.nm)).1 (wcall X S true (S.create x.nm)).2.1 (grow F w w') ∧ Touch F w w' := by
  have HOK := Lib.hid hX
  have HX := Lib.hid hx
  have HD := Lib.hid hd
  have HF := Lib.hid hF
  have HS := Lib.hid hS
  obtain ⟨E, hE⟩ : ∃ E, E = (wcall X S true (S.create x.nm)).2.2 := ⟨_, rfl⟩
  have HE := Lib.hid hE
  rw [← HE.out]
  obtain ⟨T, hT⟩ : ∃ T, T = (wcall X S true (S.create x.nm)).2.1 := ⟨_, rfl⟩
  have HT := Lib.hid hT
  rw [← HT.out]
  obtain ⟨Y, hY⟩ : ∃ Y, Y = (wcall X S true (S.create x.nm)).1 := ⟨_, rfl⟩
  have HY := Lib.hid hY
  rw [← HY.out]
  obtain ⟨W, hW⟩ : ∃ W, W = ((w.alloc (.cells (stepCells x L) 69)).alloc (.cells zeroSaid 41)).alloc (.cells zeroSaid 41) := ⟨_, rfl⟩
  have HWB : Hid (Below w.heap.size w W) := Lib.hid (by rw [hW]; exact (((Below.refl _ w).alloc (Nat.le_refl _) _).alloc (by simp) _).alloc (by simp; omega) _)
  have HBW : Hid (Box W w.heap.size) := Lib.hid (by
    rw [hW]
    constructor
    · have := Blk.new ((w.alloc (.cells (stepCells x L) 69)).alloc (.cells zeroSaid 41)) 41 zeroSaid
      simpa using this
    · have := Blk.new (w.alloc (.cells (stepCells x L) 69)) 41 zeroSaid
      have := this.alloc (.cells zeroSaid 41)
      simpa using this)
  have HXW : Hid (Blk W w.heap.size 69 (stepCells x L)) := Lib.hid (by rw [hW]; exact ((Blk.new _ _ _).alloc _).alloc _)
  have HWS : Hid (W.heap.size = w.heap.size + 3) := Lib.hid (by rw [hW]; simp)
  unfold stepCells zeroSaid at hW
  rw [hk] at hW
  unfold stepCells
  rw [hk]
  have HW := Lib.hid hW
  clear hk hx hd hF hS hX hE hT hY hW
  go_enter Try.func37, Try.ntmps37
  go_wp2_with (go_at_call 14; rw [← HW.out]; refine (wcreate_any q p X S F x.name W HX.out.name (HD.out.below HWB.out) HOK.out HS.out).mono ?_; rintro e w2 ⟨rfl, hd2, ht2⟩; rw [← HE.out]; rw [← HT.out, ← HY.out] at hd2; have HBX := Lib.hid (HBW.out.touch ht2 HF.out); have HD2 := Lib.hid hd2; have HT2 := Lib.hid ht2; clear hd2 ht2; have b0 : w2.cell? ⟨w.heap.size + 1 + 1, 0, none⟩ = some (.int .i64 0) := HBX.out.s.cell 0; have b1 : w2.cell? ⟨w.heap.size + 1 + 1, 1, none⟩ = some (.slice none 0 0) := HBX.out.s.cell 1; have b2 : w2.cell? ⟨w.heap.size + 1 + 1, 2, none⟩ = some (.slice none 0 0) := HBX.out.s.cell 2; have b3 : w2.cell? ⟨w.heap.size + 1 + 1, 3, none⟩ = some (.slice none 0 0) := HBX.out.s.cell 3; have b4 : w2.cell? ⟨w.heap.size + 1 + 1, 4, none⟩ = some (.int .i64 0) := HBX.out.s.cell 4; have b5 : w2.cell? ⟨w.heap.size + 1 + 1, 5, none⟩ = some (.bool false) := HBX.out.s.cell 5; have bf : ∀ i, w2.frozen? ⟨w.heap.size + 1 + 1, i, none⟩ = false := HBX.out.s.frozen; have r0 : w2.cell? ⟨w.heap.size + 1, 0, none⟩ = some (.int .i64 0) := HBX.out.r.cell 0; have r1 : w2.cell? ⟨w.heap.size + 1, 1, none⟩ = some (.slice none 0 0) := HBX.out.r.cell 1; have r2 : w2.cell? ⟨w.heap.size + 1, 2, none⟩ = some (.slice none 0 0) := HBX.out.r.cell 2; have r3 : w2.cell? ⟨w.heap.size + 1, 3, none⟩ = some (.slice none 0 0) := HBX.out.r.cell 3; have r4 : w2.cell? ⟨w.heap.size + 1, 4, none⟩ = some (.int .i64 0) := HBX.out.r.cell 4; have r5 : w2.cell? ⟨w.heap.size + 1, 5, none⟩ = some (.bool false) := HBX.out.r.cell 5; have rf : ∀ i, w2.frozen? ⟨w.heap.size + 1, i, none⟩ = false := HBX.out.r.frozen)
  refine bodyPost_ret (v := .agg #[.int .i64 E, .slice none 0 0, .slice none 0 0, .slice none 0 0, .int .i64 0, .bool false]) (by simp only [results, Try.results37]; go_simp) rfl ?_
  refine ⟨_, rfl, Said.code_at _ _ _, frame_wd (G := fun k => k = w.heap.size + 1 ∨ k = w.heap.size + 1 + 1) HWB.out HD2.out HT2.out ?_ ?_ HF.out (fun k hk => by have := HWS.out; rcases hk with rfl | rfl <;> omega)⟩
  · exact (((((((Touch.refl _ _).set (Or.inr rfl) _).set (Or.inl rfl) _).set (Or.inl rfl) _).set (Or.inl rfl) _).set (Or.inl rfl) _).set (Or.inl rfl) _).set (Or.inl rfl) _
  · simp only [size_set]

set_option maxRecDepth 100000 in
set_option maxHeartbeats 1000000 in
theorem hurt_sync (q p : Nat) (X : Wnd) (S : Drv) (F : Nat → Prop) (x : PStep) (L : SLay) (w : World) (hk : x.kind = 3) (hx : x.Fits) (hd : WD w q p X S F) (hF : ∀ k, F k → k < w.heap.size) (hX : X.Ok) (hS : S.Small) :
    Calls Try.prog 37 #[.pointer (some ⟨q, 0, none⟩), .agg (stepCells x L)] w fun e w' =>
      ∃ u, e = .returned u ∧ SaidAt w' w.heap.size u (.code (wcall X S false (S.sync x.nm)).2.2) ∧ WD w' q p (wcall X S false (S.sync x.nm)).1 (wcall X S false (S.sync x.nm)).2.1 (grow F w w') ∧ Touch F w w' := by
  have HOK := Lib.hid hX
  have HX := Lib.hid hx
  have HD := Lib.hid hd
  have HF := Lib.hid hF
  have HS := Lib.hid hS
  obtain ⟨E, hE⟩ : ∃ E, E = (wcall X S false (S.sync x.nm)).2.2 := ⟨_, rfl⟩
  have HE := Lib.hid hE
  rw [← HE.out]
  obtain ⟨T, hT⟩ : ∃ T, T = (wcall X S false (S.sync x.nm)).2.1 := ⟨_, rfl⟩
  have HT := Lib.hid hT
  rw [← HT.out]
  obtain ⟨Y, hY⟩ : ∃ Y, Y = (wcall X S false (S.sync x.nm)).1 := ⟨_, rfl⟩
  have HY := Lib.hid hY
  rw [← HY.out]
  obtain ⟨W, hW⟩ : ∃ W, W = ((w.alloc (.cells (stepCells x L) 69)).alloc (.cells zeroSaid 41)).alloc (.cells zeroSaid 41) := ⟨_, rfl⟩
  have HWB : Hid (Below w.heap.size w W) := Lib.hid (by rw [hW]; exact (((Below.refl _ w).alloc (Nat.le_refl _) _).alloc (by simp) _).alloc (by simp; omega) _)
  have HBW : Hid (Box W w.heap.size) := Lib.hid (by
    rw [hW]
    constructor
    · have := Blk.new ((w.alloc (.cells (stepCells x L) 69)).alloc (.cells zeroSaid 41)) 41 zeroSaid
      simpa using this
    · have := Blk.new (w.alloc (.cells (stepCells x L) 69)) 41 zeroSaid
      have := this.alloc (.cells zeroSaid 41)
      simpa using this)
  have HXW : Hid (Blk W w.heap.size 69 (stepCells x L)) := Lib.hid (by rw [hW]; exact ((Blk.new _ _ _).alloc _).alloc _)
  have HWS : Hid (W.heap.size = w.heap.size + 3) := Lib.hid (by rw [hW]; simp)
  unfold stepCells zeroSaid at hW
  rw [hk] at hW
  unfold stepCells
  rw [hk]
  have HW := Lib.hid hW
  clear hk hx hd hF hS hX hE hT hY hW
  go_enter Try.func37, Try.ntmps37
  go_wp2_with (go_at_call 30; rw [← HW.out]; refine (wsync_any q p X S F x.name W HX.out.name (HD.out.below HWB.out) HOK.out HS.out).mono ?_; rintro e w2 ⟨rfl, hd2, ht2⟩; rw [← HE.out]; rw [← HT.out, ← HY.out] at hd2; have HBX := Lib.hid (HBW.out.touch ht2 HF.out); have HD2 := Lib.hid hd2; have HT2 := Lib.hid ht2; clear hd2 ht2; have b0 : w2.cell? ⟨w.heap.size + 1 + 1, 0, none⟩ = some (.int .i64 0) := HBX.out.s.cell 0; have b1 : w2.cell? ⟨w.heap.size + 1 + 1, 1, none⟩ = some (.slice none 0 0) := HBX.out.s.cell 1; have b2 : w2.cell? ⟨w.heap.size + 1 + 1, 2, none⟩ = some (.slice none 0 0) := HBX.out.s.cell 2; have b3 : w2.cell? ⟨w.heap.size + 1 + 1, 3, none⟩ = some (.slice none 0 0) := HBX.out.s.cell 3; have b4 : w2.cell? ⟨w.heap.size + 1 + 1, 4, none⟩ = some (.int .i64 0) := HBX.out.s.cell 4; have b5 : w2.cell? ⟨w.heap.size + 1 + 1, 5, none⟩ = some (.bool false) := HBX.out.s.cell 5; have bf : ∀ i, w2.frozen? ⟨w.heap.size + 1 + 1, i, none⟩ = false := HBX.out.s.frozen; have r0 : w2.cell? ⟨w.heap.size + 1, 0, none⟩ = some (.int .i64 0) := HBX.out.r.cell 0; have r1 : w2.cell? ⟨w.heap.size + 1, 1, none⟩ = some (.slice none 0 0) := HBX.out.r.cell 1; have r2 : w2.cell? ⟨w.heap.size + 1, 2, none⟩ = some (.slice none 0 0) := HBX.out.r.cell 2; have r3 : w2.cell? ⟨w.heap.size + 1, 3, none⟩ = some (.slice none 0 0) := HBX.out.r.cell 3; have r4 : w2.cell? ⟨w.heap.size + 1, 4, none⟩ = some (.int .i64 0) := HBX.out.r.cell 4; have r5 : w2.cell? ⟨w.heap.size + 1, 5, none⟩ = some (.bool false) := HBX.out.r.cell 5; have rf : ∀ i, w2.frozen? ⟨w.heap.size + 1, i, none⟩ = false := HBX.out.r.frozen)
  refine bodyPost_ret (v := .agg #[.int .i64 E, .slice none 0 0, .slice none 0 0, .slice none 0 0, .int .i64 0, .bool false]) (by simp only [results, Try.results37]; go_simp) rfl ?_
  refine ⟨_, rfl, Said.code_at _ _ _, frame_wd (G := fun k => k = w.heap.size + 1 ∨ k = w.heap.size + 1 + 1) HWB.out HD2.out HT2.out ?_ ?_ HF.out (fun k hk => by have := HWS.out; rcases hk with rfl | rfl <;> omega)⟩
  · exact (((((((Touch.refl _ _).set (Or.inr rfl) _).set (Or.inl rfl) _).set (Or.inl rfl) _).set (Or.inl rfl) _).set (Or.inl rfl) _).set (Or.inl rfl) _).set (Or.inl rfl) _
  · simp only [size_set]

set_option maxRecDepth 100000 in
set_option maxHeartbeats 1000000 in
theorem hurt_rename (q p : Nat) (X : Wnd) (S : Drv) (F : Nat → Prop) (x : PStep) (L : SLay) (w : World) (hk : x.kind = 4) (hx : x.Fits) (hd : WD w q p X S F) (hF : ∀ k, F k → k < w.heap.size) (hX : X.Ok) (hS : S.Small) :
    Calls Try.prog 37 #[.pointer (some ⟨q, 0, none⟩), .agg (stepCells x L)] w fun e w' =>
      ∃ u, e = .returned u ∧ SaidAt w' w.heap.size u (.code (wcall X S false (S.rename x.nm x.tn)).2.2) ∧ WD w' q p (wcall X S false (S.rename x.nm x.tn)).1 (wcall X S false (S.rename x.nm x.tn)).2.1 (grow F w w') ∧ Touch F w w' := by
  have HOK := Lib.hid hX
  have HX := Lib.hid hx
  have HD := Lib.hid hd
  have HF := Lib.hid hF
  have HS := Lib.hid hS
  obtain ⟨E, hE⟩ : ∃ E, E = (wcall X S false (S.rename x.nm x.tn)).2.2 := ⟨_, rfl⟩
  have HE := Lib.hid hE
  rw [← HE.out]
  obtain ⟨T, hT⟩ : ∃ T, T = (wcall X S false (S.rename x.nm x.tn)).2.1 := ⟨_, rfl⟩
  have HT := Lib.hid hT
  rw [← HT.out]
  obtain ⟨Y, hY⟩ : ∃ Y, Y = (wcall X S false (S.rename x.nm x.tn)).1 := ⟨_, rfl⟩
  have HY := Lib.hid hY
  rw [← HY.out]
  obtain ⟨W, hW⟩ : ∃ W, W = ((w.alloc (.cells (stepCells x L) 69)).alloc (.cells zeroSaid 41)).alloc (.cells zeroSaid 41) := ⟨_, rfl⟩
  have HWB : Hid (Below w.heap.size w W) := Lib.hid (by rw [hW]; exact (((Below.refl _ w).alloc (Nat.le_refl _) _).alloc (by simp) _).alloc (by simp; omega) _)
  have HBW : Hid (Box W w.heap.size) := Lib.hid (by
    rw [hW]
    constructor
    · have := Blk.new ((w.alloc (.cells (stepCells x L) 69)).alloc (.cells zeroSaid 41)) 41 zeroSaid
      simpa using this
    · have := Blk.new (w.alloc (.cells (stepCells x L) 69)) 41 zeroSaid
      have := this.alloc (.cells zeroSaid 41)
      simpa using this)
  have HXW : Hid (Blk W w.heap.size 69 (stepCells x L)) := Lib.hid (by rw [hW]; exact ((Blk.new _ _ _).alloc _).alloc _)
  have HWS : Hid (W.heap.size = w.heap.size + 3) := Lib.hid (by rw [hW]; simp)
  unfold stepCells zeroSaid at hW
  rw [hk] at hW
  unfold stepCells
  rw [hk]
  have HW := Lib.hid hW
  clear hk hx hd hF hS hX hE hT hY hW
  go_enter Try.func37, Try.ntmps37
  go_wp2_with (go_at_call 31; rw [← HW.out]; refine (wrename_any q p X S F x.name x.to W HX.out.name HX.out.to (HD.out.below HWB.out) HOK.out HS.out).mono ?_; rintro e w2 ⟨rfl, hd2, ht2⟩; rw [← HE.out]; rw [← HT.out, ← HY.out] at hd2; have HBX := Lib.hid (HBW.out.touch ht2 HF.out); have HD2 := Lib.hid hd2; have HT2 := Lib.hid ht2; clear hd2 ht2; have b0 : w2.cell? ⟨w.heap.size + 1 + 1, 0, none⟩ = some (.int .i64 0) := HBX.out.s.cell 0; have b1 : w2.cell? ⟨w.heap.size + 1 + 1, 1, none⟩ = some (.slice none 0 0) := HBX.out.s.cell 1; have b2 : w2.cell? ⟨w.heap.size + 1 + 1, 2, none⟩ = some (.slice none 0 0) := HBX.out.s.cell 2; have b3 : w2.cell? ⟨w.heap.size + 1 + 1, 3, none⟩ = some (.slice none 0 0) := HBX.out.s.cell 3; have b4 : w2.cell? ⟨w.heap.size + 1 + 1, 4, none⟩ = some (.int .i64 0) := HBX.out.s.cell 4; have b5 : w2.cell? ⟨w.heap.size + 1 + 1, 5, none⟩ = some (.bool false) := HBX.out.s.cell 5; have bf : ∀ i, w2.frozen? ⟨w.heap.size + 1 + 1, i, none⟩ = false := HBX.out.s.frozen; have r0 : w2.cell? ⟨w.heap.size + 1, 0, none⟩ = some (.int .i64 0) := HBX.out.r.cell 0; have r1 : w2.cell? ⟨w.heap.size + 1, 1, none⟩ = some (.slice none 0 0) := HBX.out.r.cell 1; have r2 : w2.cell? ⟨w.heap.size + 1, 2, none⟩ = some (.slice none 0 0) := HBX.out.r.cell 2; have r3 : w2.cell? ⟨w.heap.size + 1, 3, none⟩ = some (.slice none 0 0) := HBX.out.r.cell 3; have r4 : w2.cell? ⟨w.heap.size + 1, 4, none⟩ = some (.int .i64 0) := HBX.out.r.cell 4; have r5 : w2.cell? ⟨w.heap.size + 1, 5, none⟩ = some (.bool false) := HBX.out.r.cell 5; have rf : ∀ i, w2.frozen? ⟨w.heap.size + 1, i, none⟩ = false := HBX.out.r.frozen)
  refine bodyPost_ret (v := .agg #[.int .i64 E, .slice none 0 0, .slice none 0 0, .slice none 0 0, .int .i64 0, .bool false]) (by simp only [results, Try.results37]; go_simp) rfl ?_
  refine ⟨_, rfl, Said.code_at _ _ _, frame_wd (G := fun k => k = w.heap.size + 1 ∨ k = w.heap.size + 1 + 1) HWB.out HD2.out HT2.out ?_ ?_ HF.out (fun k hk => by have := HWS.out; rcases hk with rfl | rfl <;> omega)⟩
  · exact (((((((Touch.refl _ _).set (Or.inr rfl) _).set (Or.inl rfl) _).set (Or.inl rfl) _).set (Or.inl rfl) _).set (Or.inl rfl) _).set (Or.inl rfl) _).set (Or.inl rfl) _
  · simp only [size_set]

set_option maxRecDepth 100000 in
set_option maxHeartbeats 1000000 in
theorem hurt_remove (q p : Nat) (X : Wnd) (S : Drv) (F : Nat → Prop) (x : PStep) (L : SLay) (w : World) (hk : x.kind = 5) (hx : x.Fits) (hd : WD w q p X S F) (hF : ∀ k, F k → k < w.heap.size) (hX : X.Ok) (hS : S.Small) :
    Calls Try.prog 37 #[.pointer (some ⟨q, 0, none⟩), .agg (stepCells x L)] w fun e w' =>
      ∃ u, e = .returned u ∧ SaidAt w' w.heap.size u (.code (wcall X S false (S.remove x.nm)).2.2) ∧ WD w' q p (wcall X S false (S.remove x.nm)).1 (wcall X S false (S.remove x.nm)).2.1 (grow F w w') ∧ Touch F w w' := by
  have HOK := Lib.hid hX
  have HX := Lib.hid hx
  have HD := Lib.hid hd
  have HF := Lib.hid hF
  have HS := Lib.hid hS
  obtain ⟨E, hE⟩ : ∃ E, E = (wcall X S false (S.remove x.nm)).2.2 := ⟨_, rfl⟩
  have HE := Lib.hid hE
  rw [← HE.out]
  obtain ⟨T, hT⟩ : ∃ T, T = (wcall X S false (S.remove x.nm)).2.1 := ⟨_, rfl⟩
  have HT := Lib.hid hT
  rw [← HT.out]
  obtain ⟨Y, hY⟩ : ∃ Y, Y = (wcall X S false (S.remove x.nm)).1 := ⟨_, rfl⟩
  have HY := Lib.hid hY
  rw [← HY.out]
  obtain ⟨W, hW⟩ : ∃ W, W = ((w.alloc (.cells (stepCells x L) 69)).alloc (.cells zeroSaid 41)).alloc (.cells zeroSaid 41) := ⟨_, rfl⟩
  have HWB : Hid (Below w.heap.size w W) := Lib.hid (by rw [hW]; exact (((Below.refl _ w).alloc (Nat.le_refl _) _).alloc (by simp) _).alloc (by simp; omega) _)
  have HBW : Hid (Box W w.heap.size) := Lib.hid (by
    rw [hW]
    constructor
    · have := Blk.new ((w.alloc (.cells (stepCells x L) 69)).alloc (.cells zeroSaid 41)) 41 zeroSaid
      simpa using this
    · have := Blk.new (w.alloc (.cells (stepCells x L) 69)) 41 zeroSaid
      have := this.alloc (.cells zeroSaid 41)
      simpa using this)
  have HXW : Hid (Blk W w.heap.size 69 (stepCells x L)) := Lib.hid (by rw [hW]; exact ((Blk.new _ _ _).alloc _).alloc _)
  have HWS : Hid (W.heap.size = w.heap.size + 3) := Lib.hid (by rw [hW]; simp)
  unfold stepCells zeroSaid at hW
  rw [hk] at hW
  unfold stepCells
  rw [hk]
  have HW := Lib.hid hW
  clear hk hx hd hF hS hX hE hT hY hW
  go_enter Try.func37, Try.ntmps37
  go_wp2_with (go_at_call 32; rw [← HW.out]; refine (wremove_any q p X S F x.name W HX.out.name (HD.out.below HWB.out) HOK.out HS.out).mono ?_; rintro e w2 ⟨rfl, hd2, ht2⟩; rw [← HE.out]; rw [← HT.out, ← HY.out] at hd2; have HBX := Lib.hid (HBW.out.touch ht2 HF.out); have HD2 := Lib.hid hd2; have HT2 := Lib.hid ht2; clear hd2 ht2; have b0 : w2.cell? ⟨w.heap.size + 1 + 1, 0, none⟩ = some (.int .i64 0) := HBX.out.s.cell 0; have b1 : w2.cell? ⟨w.heap.size + 1 + 1, 1, none⟩ = some (.slice none 0 0) := HBX.out.s.cell 1; have b2 : w2.cell? ⟨w.heap.size + 1 + 1, 2, none⟩ = some (.slice none 0 0) := HBX.out.s.cell 2; have b3 : w2.cell? ⟨w.heap.size + 1 + 1, 3, none⟩ = some (.slice none 0 0) := HBX.out.s.cell 3; have b4 : w2.cell? ⟨w.heap.size + 1 + 1, 4, none⟩ = some (.int .i64 0) := HBX.out.s.cell 4; have b5 : w2.cell? ⟨w.heap.size + 1 + 1, 5, none⟩ = some (.bool false) := HBX.out.s.cell 5; have bf : ∀ i, w2.frozen? ⟨w.heap.size + 1 + 1, i, none⟩ = false := HBX.out.s.frozen; have r0 : w2.cell? ⟨w.heap.size + 1, 0, none⟩ = some (.int .i64 0) := HBX.out.r.cell 0; have r1 : w2.cell? ⟨w.heap.size + 1, 1, none⟩ = some (.slice none 0 0) := HBX.out.r.cell 1; have r2 : w2.cell? ⟨w.heap.size + 1, 2, none⟩ = some (.slice none 0 0) := HBX.out.r.cell 2; have r3 : w2.cell? ⟨w.heap.size + 1, 3, none⟩ = some (.slice none 0 0) := HBX.out.r.cell 3; have r4 : w2.cell? ⟨w.heap.size + 1, 4, none⟩ = some (.int .i64 0) := HBX.out.r.cell 4; have r5 : w2.cell? ⟨w.heap.size + 1, 5, none⟩ = some (.bool false) := HBX.out.r.cell 5; have rf : ∀ i, w2.frozen? ⟨w.heap.size + 1, i, none⟩ = false := HBX.out.r.frozen)
  refine bodyPost_ret (v := .agg #[.int .i64 E, .slice none 0 0, .slice none 0 0, .slice none 0 0, .int .i64 0, .bool false]) (by simp only [results, Try.results37]; go_simp) rfl ?_
  refine ⟨_, rfl, Said.code_at _ _ _, frame_wd (G := fun k => k = w.heap.size + 1 ∨ k = w.heap.size + 1 + 1) HWB.out HD2.out HT2.out ?_ ?_ HF.out (fun k hk => by have := HWS.out; rcases hk with rfl | rfl <;> omega)⟩
  · exact (((((((Touch.refl _ _).set (Or.inr rfl) _).set (Or.inl rfl) _).set (Or.inl rfl) _).set (Or.inl rfl) _).set (Or.inl rfl) _).set (Or.inl rfl) _).set (Or.inl rfl) _
  · simp only [size_set]

set_option maxRecDepth 100000 in
set_option maxHeartbeats 1000000 in
theorem hurt_syncDir (q p : Nat) (X : Wnd) (S : Drv) (F : Nat → Prop) (x : PStep) (L : SLay) (w : World) (hk : x.kind = 6) (hx : x.Fits) (hd : WD w q p X S F) (hF : ∀ k, F k → k < w.heap.size) (hX : X.Ok) (hS : S.Small) :
    Calls Try.prog 37 #[.pointer (some ⟨q, 0, none⟩), .agg (stepCells x L)] w fun e w' =>
      ∃ u, e = .returned u ∧ SaidAt w' w.heap.size u (.code (wcall X S false ((S.syncDir, 0))).2.2) ∧ WD w' q p (wcall X S false ((S.syncDir, 0))).1 (wcall X S false ((S.syncDir, 0))).2.1 (grow F w w') ∧ Touch F w w' := by
  have HOK := Lib.hid hX
  have HX := Lib.hid hx
  have HD := Lib.hid hd
  have HF := Lib.hid hF
  have HS := Lib.hid hS
  obtain ⟨E, hE⟩ : ∃ E, E = (wcall X S false ((S.syncDir, 0))).2.2 := ⟨_, rfl⟩
  have HE := Lib.hid hE
  rw [← HE.out]
  obtain ⟨T, hT⟩ : ∃ T, T = (wcall X S false ((S.syncDir, 0))).2.1 := ⟨_, rfl⟩
  have HT := Lib.hid hT
  rw [← HT.out]
  obtain ⟨Y, hY⟩ : ∃ Y, Y = (wcall X S false ((S.syncDir, 0))).1 := ⟨_, rfl⟩
  have HY := Lib.hid hY
  rw [← HY.out]
  obtain ⟨W, hW⟩ : ∃ W, W = ((w.alloc (.cells (stepCells x L) 69)).alloc (.cells zeroSaid 41)).alloc (.cells zeroSaid 41) := ⟨_, rfl⟩
  have HWB : Hid (Below w.heap.size w W) := Lib.hid (by rw [hW]; exact (((Below.refl _ w).alloc (Nat.le_refl _) _).alloc (by simp) _).alloc (by simp; omega) _)
  have HBW : Hid (Box W w.heap.size) := Lib.hid (by
    rw [hW]
    constructor
    · have := Blk.new ((w.alloc (.cells (stepCells x L) 69)).alloc (.cells zeroSaid 41)) 41 zeroSaid
      simpa using this
    · have := Blk.new (w.alloc (.cells (stepCells x L) 69)) 41 zeroSaid
      have := this.alloc (.cells zeroSaid 41)
      simpa using this)
  have HXW : Hid (Blk W w.heap.size 69 (stepCells x L)) := Lib.hid (by rw [hW]; exact ((Blk.new _ _ _).alloc _).alloc _)
  have HWS : Hid (W.heap.size = w.heap.size + 3) := Lib.hid (by rw [hW]; simp)
  unfold stepCells zeroSaid at hW
  rw [hk] at hW
  unfold stepCells
  rw [hk]
  have HW := Lib.hid hW
  clear hk hx hd hF hS hX hE hT hY hW
  go_enter Try.func37, Try.ntmps37
  go_wp2_with (go_at_call 33; rw [← HW.out]; refine (wsyncDir_any q p X S F W (HD.out.below HWB.out) HOK.out HS.out).mono ?_; rintro e w2 ⟨rfl, hd2, ht2⟩; rw [← HE.out]; rw [← HT.out, ← HY.out] at hd2; have HBX := Lib.hid (HBW.out.touch ht2 HF.out); have HD2 := Lib.hid hd2; have HT2 := Lib.hid ht2; clear hd2 ht2; have b0 : w2.cell? ⟨w.heap.size + 1 + 1, 0, none⟩ = some (.int .i64 0) := HBX.out.s.cell 0; have b1 : w2.cell? ⟨w.heap.size + 1 + 1, 1, none⟩ = some (.slice none 0 0) := HBX.out.s.cell 1; have b2 : w2.cell? ⟨w.heap.size + 1 + 1, 2, none⟩ = some (.slice none 0 0) := HBX.out.s.cell 2; have b3 : w2.cell? ⟨w.heap.size + 1 + 1, 3, none⟩ = some (.slice none 0 0) := HBX.out.s.cell 3; have b4 : w2.cell? ⟨w.heap.size + 1 + 1, 4, none⟩ = some (.int .i64 0) := HBX.out.s.cell 4; have b5 : w2.cell? ⟨w.heap.size + 1 + 1, 5, none⟩ = some (.bool false) := HBX.out.s.cell 5; have bf : ∀ i, w2.frozen? ⟨w.heap.size + 1 + 1, i, none⟩ = false := HBX.out.s.frozen; have r0 : w2.cell? ⟨w.heap.size + 1, 0, none⟩ = some (.int .i64 0) := HBX.out.r.cell 0; have r1 : w2.cell? ⟨w.heap.size + 1, 1, none⟩ = some (.slice none 0 0) := HBX.out.r.cell 1; have r2 : w2.cell? ⟨w.heap.size + 1, 2, none⟩ = some (.slice none 0 0) := HBX.out.r.cell 2; have r3 : w2.cell? ⟨w.heap.size + 1, 3, none⟩ = some (.slice none 0 0) := HBX.out.r.cell 3; have r4 : w2.cell? ⟨w.heap.size + 1, 4, none⟩ = some (.int .i64 0) := HBX.out.r.cell 4; have r5 : w2.cell? ⟨w.heap.size + 1, 5, none⟩ = some (.bool false) := HBX.out.r.cell 5; have rf : ∀ i, w2.frozen? ⟨w.heap.size + 1, i, none⟩ = false := HBX.out.r.frozen)
  refine bodyPost_ret (v := .agg #[.int .i64 E, .slice none 0 0, .slice none 0 0, .slice none 0 0, .int .i64 0, .bool false]) (by simp only [results, Try.results37]; go_simp) rfl ?_
  refine ⟨_, rfl, Said.code_at _ _ _, frame_wd (G := fun k => k = w.heap.size + 1 ∨ k = w.heap.size + 1 + 1) HWB.out HD2.out HT2.out ?_ ?_ HF.out (fun k hk => by have := HWS.out; rcases hk with rfl | rfl <;> omega)⟩
  · exact (((((((Touch.refl _ _).set (Or.inr rfl) _).set (Or.inl rfl) _).set (Or.inl rfl) _).set (Or.inl rfl) _).set (Or.inl rfl) _).set (Or.inl rfl) _).set (Or.inl rfl) _
  · simp only [size_set]

set_option maxRecDepth 100000 in
set_option maxHeartbeats 1000000 in
theorem hurt_read (q p : Nat) (X : Wnd) (S : Drv) (F : Nat → Prop) (x : PStep) (L : SLay) (w : World) (hk : x.kind = 7) (hx : x.Fits) (hd : WD w q p X S F) (hF : ∀ k, F k → k < w.heap.size) (hX : X.Ok) (hS : S.Small) :
    Calls Try.prog 37 #[.pointer (some ⟨q, 0, none⟩), .agg (stepCells x L)] w fun e w' =>
      ∃ u, e = .returned u ∧ SaidAt w' w.heap.size u { Said.none_ with data := (wread X (S.read x.nm)).2.1, e := (wread X (S.read x.nm)).2.2 } ∧ WD w' q p (wread X (S.read x.nm)).1 S (grow F w w') ∧ Touch F w w' := by
  have HOK := Lib.hid hX
  have HX := Lib.hid hx
  have HD := Lib.hid hd
  have HF := Lib.hid hF
  have HS := Lib.hid hS
  obtain ⟨E, hE⟩ : ∃ E, E = (wread X (S.read x.nm)).2.2 := ⟨_, rfl⟩
  have HE := Lib.hid hE
  rw [← HE.out]
  obtain ⟨bs, hbs⟩ : ∃ bs, bs = (wread X (S.read x.nm)).2.1 := ⟨_, rfl⟩
  have HBS := Lib.hid hbs
  rw [← HBS.out]
  obtain ⟨Y, hY⟩ : ∃ Y, Y = (wread X (S.read x.nm)).1 := ⟨_, rfl⟩
  have HY := Lib.hid hY
  rw [← HY.out]
  obtain ⟨m, hm⟩ : ∃ m, m = bs.length := ⟨_, rfl⟩
  have HM := Lib.hid hm
  obtain ⟨W, hW⟩ : ∃ W, W = ((w.alloc (.cells (stepCells x L) 69)).alloc (.cells zeroSaid 41)).alloc (.cells zeroSaid 41) := ⟨_, rfl⟩
  have HWB : Hid (Below w.heap.size w W) := Lib.hid (by rw [hW]; exact (((Below.refl _ w).alloc (Nat.le_refl _) _).alloc (by simp) _).alloc (by simp; omega) _)
  have HBW : Hid (Box W w.heap.size) := Lib.hid (by
    rw [hW]
    constructor
    · have := Blk.new ((w.alloc (.cells (stepCells x L) 69)).alloc (.cells zeroSaid 41)) 41 zeroSaid
      simpa using this
    · have := Blk.new (w.alloc (.cells (stepCells x L) 69)) 41 zeroSaid
      have := this.alloc (.cells zeroSaid 41)
      simpa using this)
  have HXW : Hid (Blk W w.heap.size 69 (stepCells x L)) := Lib.hid (by rw [hW]; exact ((Blk.new _ _ _).alloc _).alloc _)
  have HWS : Hid (W.heap.size = w.heap.size + 3) := Lib.hid (by rw [hW]; simp)
  unfold stepCells zeroSaid at hW
  rw [hk] at hW
  unfold stepCells
  rw [hk]
  have HW := Lib.hid hW
  clear hk hx hd hF hS hX hE hbs hY hm hW
  go_enter Try.func37, Try.ntmps37
  go_wp2_with (go_at_call 17; rw [← HW.out]; refine (wread_any q p X S F x.name W HX.out.name (HD.out.below HWB.out) HOK.out HS.out).mono ?_; rintro e w2 ⟨v, rfl, ho, hd2, ht2⟩; rw [← HE.out]; rw [← HBS.out, ← HM.out] at ho; rw [← HY.out] at hd2; obtain ⟨a, c, rfl, _⟩ := own_shape ho; have HO := Lib.hid ho; have HBX := Lib.hid (HBW.out.touch ht2 HF.out); have HD2 : Hid (WD w2 q p Y S (grow F W w2)) := Lib.hid (hd2.mono fun k hk => .inl hk); have HT2 := Lib.hid ht2; clear ho hd2 ht2; have b0 : w2.cell? ⟨w.heap.size + 1 + 1, 0, none⟩ = some (.int .i64 0) := HBX.out.s.cell 0; have b1 : w2.cell? ⟨w.heap.size + 1 + 1, 1, none⟩ = some (.slice none 0 0) := HBX.out.s.cell 1; have b2 : w2.cell? ⟨w.heap.size + 1 + 1, 2, none⟩ = some (.slice none 0 0) := HBX.out.s.cell 2; have b3 : w2.cell? ⟨w.heap.size + 1 + 1, 3, none⟩ = some (.slice none 0 0) := HBX.out.s.cell 3; have b4 : w2.cell? ⟨w.heap.size + 1 + 1, 4, none⟩ = some (.int .i64 0) := HBX.out.s.cell 4; have b5 : w2.cell? ⟨w.heap.size + 1 + 1, 5, none⟩ = some (.bool false) := HBX.out.s.cell 5; have bf : ∀ i, w2.frozen? ⟨w.heap.size + 1 + 1, i, none⟩ = false := HBX.out.s.frozen; have r0 : w2.cell? ⟨w.heap.size + 1, 0, none⟩ = some (.int .i64 0) := HBX.out.r.cell 0; have r1 : w2.cell? ⟨w.heap.size + 1, 1, none⟩ = some (.slice none 0 0) := HBX.out.r.cell 1; have r2 : w2.cell? ⟨w.heap.size + 1, 2, none⟩ = some (.slice none 0 0) := HBX.out.r.cell 2; have r3 : w2.cell? ⟨w.heap.size + 1, 3, none⟩ = some (.slice none 0 0) := HBX.out.r.cell 3; have r4 : w2.cell? ⟨w.heap.size + 1, 4, none⟩ = some (.int .i64 0) := HBX.out.r.cell 4; have r5 : w2.cell? ⟨w.heap.size + 1, 5, none⟩ = some (.bool false) := HBX.out.r.cell 5; have rf : ∀ i, w2.frozen? ⟨w.heap.size + 1, i, none⟩ = false := HBX.out.r.frozen)
  refine bodyPost_ret (v := .agg #[.int .i64 E, .slice a m c, .slice none 0 0, .slice none 0 0, .int .i64 0, .bool false]) (by simp only [results, Try.results37]; go_simp) rfl ?_
  have GB : ∀ k, (k = w.heap.size + 1 ∨ k = w.heap.size + 1 + 1) → k < W.heap.size := fun k hk => by have := HWS.out; rcases hk with rfl | rfl <;> omega
  exact ⟨_, rfl, ⟨_, _, _, rfl, by show World.ownsRow _ _ _ _ _ bs.length _; rw [← HM.out]; exact ownsRow_base_a (row_touch (G := fun k => k = w.heap.size + 1 ∨ k = w.heap.size + 1 + 1) HO.out (by exact ((((((((Touch.refl _ _).set (Or.inr rfl) _).set (Or.inr rfl) _).set (Or.inl rfl) _).set (Or.inl rfl) _).set (Or.inl rfl) _).set (Or.inl rfl) _).set (Or.inl rfl) _).set (Or.inl rfl) _) GB) HWB.out.size, World.ownsRow_nil _ _ _ _, FilesAt.nil _ _⟩, frame_wd (G := fun k => k = w.heap.size + 1 ∨ k = w.heap.size + 1 + 1) HWB.out HD2.out HT2.out (by exact ((((((((Touch.refl _ _).set (Or.inr rfl) _).set (Or.inr rfl) _).set (Or.inl rfl) _).set (Or.inl rfl) _).set (Or.inl rfl) _).set (Or.inl rfl) _).set (Or.inl rfl) _).set (Or.inl rfl) _) (by simp only [size_set]) HF.out (fun k hk => by have := HWS.out; rcases hk with rfl | rfl <;> omega)⟩

set_option maxRecDepth 100000 in
set_option maxHeartbeats 1000000 in
theorem hurt_list (q p : Nat) (X : Wnd) (S : Drv) (F : Nat → Prop) (x : PStep) (L : SLay) (w : World) (hk : x.kind = 8) (hx : x.Fits) (hd : WD w q p X S F) (hF : ∀ k, F k → k < w.heap.size) (hX : X.Ok) (hS : S.Small) :
    Calls Try.prog 37 #[.pointer (some ⟨q, 0, none⟩), .agg (stepCells x L)] w fun e w' =>
      ∃ u, e = .returned u ∧ SaidAt w' w.heap.size u { Said.none_ with names := (wread X ((dnames S.now, (0 : Int)))).2.1, e := (wread X ((dnames S.now, (0 : Int)))).2.2 } ∧ WD w' q p (wread X ((dnames S.now, (0 : Int)))).1 S (grow F w w') ∧ Touch F w w' := by
  have HOK := Lib.hid hX
  have HX := Lib.hid hx
  have HD := Lib.hid hd
  have HF := Lib.hid hF
  have HS := Lib.hid hS
  obtain ⟨E, hE⟩ : ∃ E, E = (wread X ((dnames S.now, (0 : Int)))).2.2 := ⟨_, rfl⟩
  have HE := Lib.hid hE
  rw [← HE.out]
  obtain ⟨bs, hbs⟩ : ∃ bs, bs = (wread X ((dnames S.now, (0 : Int)))).2.1 := ⟨_, rfl⟩
  have HBS := Lib.hid hbs
  rw [← HBS.out]
  obtain ⟨Y, hY⟩ : ∃ Y, Y = (wread X ((dnames S.now, (0 : Int)))).1 := ⟨_, rfl⟩
  have HY := Lib.hid hY
  rw [← HY.out]
  obtain ⟨m, hm⟩ : ∃ m, m = bs.length := ⟨_, rfl⟩
  have HM := Lib.hid hm
  obtain ⟨W, hW⟩ : ∃ W, W = ((w.alloc (.cells (stepCells x L) 69)).alloc (.cells zeroSaid 41)).alloc (.cells zeroSaid 41) := ⟨_, rfl⟩
  have HWB : Hid (Below w.heap.size w W) := Lib.hid (by rw [hW]; exact (((Below.refl _ w).alloc (Nat.le_refl _) _).alloc (by simp) _).alloc (by simp; omega) _)
  have HBW : Hid (Box W w.heap.size) := Lib.hid (by
    rw [hW]
    constructor
    · have := Blk.new ((w.alloc (.cells (stepCells x L) 69)).alloc (.cells zeroSaid 41)) 41 zeroSaid
      simpa using this
    · have := Blk.new (w.alloc (.cells (stepCells x L) 69)) 41 zeroSaid
      have := this.alloc (.cells zeroSaid 41)
      simpa using this)
  have HXW : Hid (Blk W w.heap.size 69 (stepCells x L)) := Lib.hid (by rw [hW]; exact ((Blk.new _ _ _).alloc _).alloc _)
  have HWS : Hid (W.heap.size = w.heap.size + 3) := Lib.hid (by rw [hW]; simp)
  unfold stepCells zeroSaid at hW
  rw [hk] at hW
  unfold stepCells
  rw [hk]
  have HW := Lib.hid hW
  clear hk hx hd hF hS hX hE hbs hY hm hW
  go_enter Try.func37, Try.ntmps37
  go_wp2_with (go_at_call 19; rw [← HW.out]; refine (wlist_any q p X S F W (by have := HS.out.now; omega) (HD.out.below HWB.out) HOK.out HS.out).mono ?_; rintro e w2 ⟨v, rfl, ho, hd2, ht2⟩; rw [← HE.out]; rw [← HBS.out, ← HM.out] at ho; rw [← HY.out] at hd2; obtain ⟨a, c, rfl, _⟩ := own_shape ho; have HO := Lib.hid ho; have HBX := Lib.hid (HBW.out.touch ht2 HF.out); have HD2 : Hid (WD w2 q p Y S (grow F W w2)) := Lib.hid (hd2.mono fun k hk => .inl hk); have HT2 := Lib.hid ht2; clear ho hd2 ht2; have b0 : w2.cell? ⟨w.heap.size + 1 + 1, 0, none⟩ = some (.int .i64 0) := HBX.out.s.cell 0; have b1 : w2.cell? ⟨w.heap.size + 1 + 1, 1, none⟩ = some (.slice none 0 0) := HBX.out.s.cell 1; have b2 : w2.cell? ⟨w.heap.size + 1 + 1, 2, none⟩ = some (.slice none 0 0) := HBX.out.s.cell 2; have b3 : w2.cell? ⟨w.heap.size + 1 + 1, 3, none⟩ = some (.slice none 0 0) := HBX.out.s.cell 3; have b4 : w2.cell? ⟨w.heap.size + 1 + 1, 4, none⟩ = some (.int .i64 0) := HBX.out.s.cell 4; have b5 : w2.cell? ⟨w.heap.size + 1 + 1, 5, none⟩ = some (.bool false) := HBX.out.s.cell 5; have bf : ∀ i, w2.frozen? ⟨w.heap.size + 1 + 1, i, none⟩ = false := HBX.out.s.frozen; have r0 : w2.cell? ⟨w.heap.size + 1, 0, none⟩ = some (.int .i64 0) := HBX.out.r.cell 0; have r1 : w2.cell? ⟨w.heap.size + 1, 1, none⟩ = some (.slice none 0 0) := HBX.out.r.cell 1; have r2 : w2.cell? ⟨w.heap.size + 1, 2, none⟩ = some (.slice none 0 0) := HBX.out.r.cell 2; have r3 : w2.cell? ⟨w.heap.size + 1, 3, none⟩ = some (.slice none 0 0) := HBX.out.r.cell 3; have r4 : w2.cell? ⟨w.heap.size + 1, 4, none⟩ = some (.int .i64 0) := HBX.out.r.cell 4; have r5 : w2.cell? ⟨w.heap.size + 1, 5, none⟩ = some (.bool false) := HBX.out.r.cell 5; have rf : ∀ i, w2.frozen? ⟨w.heap.size + 1, i, none⟩ = false := HBX.out.r.frozen)
  refine bodyPost_ret (v := .agg #[.int .i64 E, .slice none 0 0, .slice a m c, .slice none 0 0, .int .i64 0, .bool false]) (by simp only [results, Try.results37]; go_simp) rfl ?_
  have GB : ∀ k, (k = w.heap.size + 1 ∨ k = w.heap.size + 1 + 1) → k < W.heap.size := fun k hk => by have := HWS.out; rcases hk with rfl | rfl <;> omega
  exact ⟨_, rfl, ⟨_, _, _, rfl, World.ownsRow_nil _ _ _ _, by show World.ownsRow _ _ _ _ _ bs.length _; rw [← HM.out]; exact ownsRow_base_a (row_touch (G := fun k => k = w.heap.size + 1 ∨ k = w.heap.size + 1 + 1) HO.out (by exact ((((((((Touch.refl _ _).set (Or.inr rfl) _).set (Or.inr rfl) _).set (Or.inl rfl) _).set (Or.inl rfl) _).set (Or.inl rfl) _).set (Or.inl rfl) _).set (Or.inl rfl) _).set (Or.inl rfl) _) GB) HWB.out.size, FilesAt.nil _ _⟩, frame_wd (G := fun k => k = w.heap.size + 1 ∨ k = w.heap.size + 1 + 1) HWB.out HD2.out HT2.out (by exact ((((((((Touch.refl _ _).set (Or.inr rfl) _).set (Or.inr rfl) _).set (Or.inl rfl) _).set (Or.inl rfl) _).set (Or.inl rfl) _).set (Or.inl rfl) _).set (Or.inl rfl) _).set (Or.inl rfl) _) (by simp only [size_set]) HF.out (fun k hk => by have := HWS.out; rcases hk with rfl | rfl <;> omega)⟩

set_option maxRecDepth 100000 in
set_option maxHeartbeats 1000000 in
theorem hurt_append (q p : Nat) (X : Wnd) (S : Drv) (F : Nat → Prop) (x : PStep) (L : SLay) (w : World) (hk : x.kind = 2) (hx : x.Fits) (hd : WD w q p X S F) (hF : ∀ k, F k → k < w.heap.size) (hX : X.Ok) (hS : S.Small) (B : Nat) (hB : B ≤ w.heap.size) (hxa : StepAt w B L x) :
    Calls Try.prog 37 #[.pointer (some ⟨q, 0, none⟩), .agg (stepCells x L)] w fun e w' =>
      ∃ u, e = .returned u ∧ SaidAt w' w.heap.size u (.code (wappend X S x.nm x.data).2.2) ∧ WD w' q p (wappend X S x.nm x.data).1 (wappend X S x.nm x.data).2.1 (grow F w w') ∧ Touch F w w' := by
  have HOK := Lib.hid hX
  have HX := Lib.hid hx
  have HD := Lib.hid hd
  have HF := Lib.hid hF
  have HS := Lib.hid hS
  obtain ⟨E, hE⟩ : ∃ E, E = (wappend X S x.nm x.data).2.2 := ⟨_, rfl⟩
  have HE := Lib.hid hE
  rw [← HE.out]
  obtain ⟨T, hT⟩ : ∃ T, T = (wappend X S x.nm x.data).2.1 := ⟨_, rfl⟩
  have HT := Lib.hid hT
  rw [← HT.out]
  obtain ⟨Y, hY⟩ : ∃ Y, Y = (wappend X S x.nm x.data).1 := ⟨_, rfl⟩
  have HY := Lib.hid hY
  rw [← HY.out]
  have HXA := Lib.hid hxa
  obtain ⟨m, hm⟩ : ∃ m, m = x.data.length := ⟨_, rfl⟩
  have HM := Lib.hid hm
  obtain ⟨W, hW⟩ : ∃ W, W = ((w.alloc (.cells (stepCells x L) 69)).alloc (.cells zeroSaid 41)).alloc (.cells zeroSaid 41) := ⟨_, rfl⟩
  have HWB : Hid (Below w.heap.size w W) := Lib.hid (by rw [hW]; exact (((Below.refl _ w).alloc (Nat.le_refl _) _).alloc (by simp) _).alloc (by simp; omega) _)
  have HBW : Hid (Box W w.heap.size) := Lib.hid (by
    rw [hW]
    constructor
    · have := Blk.new ((w.alloc (.cells (stepCells x L) 69)).alloc (.cells zeroSaid 41)) 41 zeroSaid
      simpa using this
    · have := Blk.new (w.alloc (.cells (stepCells x L) 69)) 41 zeroSaid
      have := this.alloc (.cells zeroSaid 41)
      simpa using this)
  have HXW : Hid (Blk W w.heap.size 69 (stepCells x L)) := Lib.hid (by rw [hW]; exact ((Blk.new _ _ _).alloc _).alloc _)
  have HWS : Hid (W.heap.size = w.heap.size + 3) := Lib.hid (by rw [hW]; simp)
  unfold stepCells zeroSaid at hW
  rw [hk] at hW
  unfold stepCells
  rw [hk]
  have HW := Lib.hid hW
  rw [← HM.out] at HW
  rw [← HM.out]
  clear hk hx hd hF hS hX hE hT hY hm hxa hW
  go_enter Try.func37, Try.ntmps37
  go_wp2_with fail
  go_region_held3 (fun w' => w'.cell? ⟨w.heap.size, 1, none⟩ = some (.string x.name) ∧ w'.cell? ⟨w.heap.size, 3, none⟩ = some (.slice L.pd m L.cd))
    (first | go_keep | (go_split_ands; refine ⟨?_, ?_⟩ <;> (rw [World.cell?_setCell_other _ _ _ _ (by simp)]; assumption)))
    (first
      | (go_at_call 18; rw [← HW.out]; refine (twin_any L.pd m L.cd x.data W.drew B (by rw [HM.out]; exact (HXA.out.data.below (HWB.out.mono hB)).drew) (by rw [HM.out]; exact HX.out.data)).mono ?_; rintro e w1 ⟨v, rfl, ho, hb⟩; have hb' : Below W.heap.size W w1 := below_of_drew hb; obtain ⟨a1, c1, rfl, hc1⟩ := own_shape ho; have k1 : w1.cell? ⟨w.heap.size, 1, none⟩ = some (.string x.name) := (hb'.cell HXW.out.lt).trans (HXW.out.cell 1); have k3 : w1.cell? ⟨w.heap.size, 3, none⟩ = some (.slice L.pd m L.cd) := (by rw [HM.out]; exact (hb'.cell HXW.out.lt).trans (HXW.out.cell 3)); have HBX1 := Lib.hid (HBW.out.below hb'); have HO1 : Hid (w1.ownsRow W.heap.size 5 1 (.slice a1 m c1) m (x.data.map B8)) := Lib.hid ho; have HB1 := Lib.hid hb'; clear ho hb hb')
      | (go_at_call 15; rw [HM.out]; refine (wappend_any q p X S F x.name w1 HX.out.name a1 c1 x.data (by rw [← HM.out]; exact Reads.of_own HO1.out) (fun ad e hf => by subst e; have h1 := own_lo HO1.out; have h2 := HF.out _ hf; have h3 := HWB.out.size; omega) (by rw [← HM.out]; exact hc1) HX.out.data ((HD.out.below HWB.out).below HB1.out) HOK.out HS.out).mono ?_; rintro e w2 ⟨rfl, hd2, ht2⟩; rw [← HE.out]; rw [← HT.out, ← HY.out] at hd2; have k1 : w2.cell? ⟨w.heap.size, 1, none⟩ = some (.string x.name) := World.cell?_of_block (ht2.block _ (Nat.lt_of_lt_of_le HXW.out.lt HB1.out.size) (fun hf => absurd (HF.out _ hf) (Nat.lt_irrefl _))) |>.trans k1; have k3 : w2.cell? ⟨w.heap.size, 3, none⟩ = some (.slice L.pd m L.cd) := World.cell?_of_block (ht2.block _ (Nat.lt_of_lt_of_le HXW.out.lt HB1.out.size) (fun hf => absurd (HF.out _ hf) (Nat.lt_irrefl _))) |>.trans k3; have HBX := Lib.hid (HBX1.out.touch ht2 HF.out); have HD2 := Lib.hid hd2; have HT2 := Lib.hid ht2; clear hd2 ht2; have b0 : w2.cell? ⟨w.heap.size + 1 + 1, 0, none⟩ = some (.int .i64 0) := HBX.out.s.cell 0; have b1 : w2.cell? ⟨w.heap.size + 1 + 1, 1, none⟩ = some (.slice none 0 0) := HBX.out.s.cell 1; have b2 : w2.cell? ⟨w.heap.size + 1 + 1, 2, none⟩ = some (.slice none 0 0) := HBX.out.s.cell 2; have b3 : w2.cell? ⟨w.heap.size + 1 + 1, 3, none⟩ = some (.slice none 0 0) := HBX.out.s.cell 3; have b4 : w2.cell? ⟨w.heap.size + 1 + 1, 4, none⟩ = some (.int .i64 0) := HBX.out.s.cell 4; have b5 : w2.cell? ⟨w.heap.size + 1 + 1, 5, none⟩ = some (.bool false) := HBX.out.s.cell 5; have bf : ∀ i, w2.frozen? ⟨w.heap.size + 1 + 1, i, none⟩ = false := HBX.out.s.frozen; have r0 : w2.cell? ⟨w.heap.size + 1, 0, none⟩ = some (.int .i64 0) := HBX.out.r.cell 0; have r1 : w2.cell? ⟨w.heap.size + 1, 1, none⟩ = some (.slice none 0 0) := HBX.out.r.cell 1; have r2 : w2.cell? ⟨w.heap.size + 1, 2, none⟩ = some (.slice none 0 0) := HBX.out.r.cell 2; have r3 : w2.cell? ⟨w.heap.size + 1, 3, none⟩ = some (.slice none 0 0) := HBX.out.r.cell 3; have r4 : w2.cell? ⟨w.heap.size + 1, 4, none⟩ = some (.int .i64 0) := HBX.out.r.cell 4; have r5 : w2.cell? ⟨w.heap.size + 1, 5, none⟩ = some (.bool false) := HBX.out.r.cell 5; have rf : ∀ i, w2.frozen? ⟨w.heap.size + 1, i, none⟩ = false := HBX.out.r.frozen))
  go_wp2
  refine bodyPost_ret (v := .agg #[.int .i64 E, .slice none 0 0, .slice none 0 0, .slice none 0 0, .int .i64 0, .bool false]) (by simp only [results, Try.results37]; go_simp) rfl ?_
  refine ⟨_, rfl, Said.code_at _ _ _, frame_wd (G := fun k => k = w.heap.size + 1 ∨ k = w.heap.size + 1 + 1) (HWB.out.trans (HB1.out.mono HWB.out.size)) HD2.out HT2.out ?_ ?_ HF.out (fun k hk => by have := HWS.out; have := HB1.out.size; rcases hk with rfl | rfl <;> omega)⟩
  · exact (((((((Touch.refl _ _).set (Or.inr rfl) _).set (Or.inl rfl) _).set (Or.inl rfl) _).set (Or.inl rfl) _).set (Or.inl rfl) _).set (Or.inl rfl) _).set (Or.inl rfl) _
  · simp only [size_set]
end Go.Proofs.Ytdmcjomcbhdcbaa
