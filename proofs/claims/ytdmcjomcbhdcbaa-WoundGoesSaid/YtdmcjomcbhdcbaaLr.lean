/- The law's helper 'hurt', at the wound's own kinds and at all others. -/
import Derived.Test.YtdmcjomcbhdcbaaLq
import Derived.Test.YtdmcjomcbhdcbaaLi
namespace Go.Proofs.Ytdmcjomcbhdcbaa
open Go.RowKit Go.Maps

set_option maxRecDepth 100000 in
set_option maxHeartbeats 1000000 in
theorem promoted_other (q p : Nat) (X : Wnd) (S : Drv) (F : Nat → Prop) (x : PStep) (L : SLay) (w : World) (hk : ¬(1 ≤ x.kind ∧ x.kind ≤ 8)) (hk2 : ¬(17 ≤ x.kind ∧ x.kind ≤ 25)) (hx : x.Fits) (hd : WD w q p X S F) (hF : ∀ k, F k → k < w.heap.size) (hS : S.Small) :
    Calls Try.prog 65 #[.pointer (some ⟨q, 0, none⟩), .agg (stepCells x L)] w fun e w' =>
      ∃ u, e = .returned u ∧ SaidAt w' w.heap.size u Said.none_ ∧ WD w' q p X S (grow F w w') ∧ Touch F w w' := by
  have n1 : x.kind ≠ 1 := by omega
  have n2 : x.kind ≠ 2 := by omega
  have n3 : x.kind ≠ 3 := by omega
  have n4 : x.kind ≠ 4 := by omega
  have n5 : x.kind ≠ 5 := by omega
  have n6 : x.kind ≠ 6 := by omega
  have n7 : x.kind ≠ 7 := by omega
  have n8 : x.kind ≠ 8 := by omega
  have n17 : x.kind ≠ 17 := by omega
  have n18 : x.kind ≠ 18 := by omega
  have n19 : x.kind ≠ 19 := by omega
  have n20 : x.kind ≠ 20 := by omega
  have n21 : x.kind ≠ 21 := by omega
  have n22 : x.kind ≠ 22 := by omega
  have n23 : x.kind ≠ 23 := by omega
  have n24 : x.kind ≠ 24 := by omega
  have n25 : x.kind ≠ 25 := by omega
  have HX := Lib.hid hx
  have kq : w.cell? ⟨q, 0, none⟩ = some (.pointer (some ⟨p, 0, none⟩)) := head_cell hd.wn
  have kql : q < w.heap.size := World.block_lt_of_cell? w _ kq
  have HD := Lib.hid hd
  have HF := Lib.hid hF
  have HS := Lib.hid hS
  obtain ⟨W, hW⟩ : ∃ W, W = ((w.alloc (.cells (stepCells x L) 69)).alloc (.cells zeroSaid 41)).alloc (.cells zeroSaid 41) := ⟨_, rfl⟩
  have HWB : Hid (Below w.heap.size w W) := Lib.hid (by rw [hW]; exact (((Below.refl _ w).alloc (Nat.le_refl _) _).alloc (by simp) _).alloc (by simp; omega) _)
  have HBW : Hid (Box W w.heap.size) := Lib.hid (by
    rw [hW]
    constructor
    · have := Blk.new ((w.alloc (.cells (stepCells x L) 69)).alloc (.cells zeroSaid 41)) 41 zeroSaid
      simpa using this
    · have := Blk.new (w.alloc (.cells (stepCells x L) 69)) 41 zeroSaid
      have := this.alloc (.cells zeroSaid 41)
      simpa using this)
  have HXW : Hid (Blk W w.heap.size 69 (stepCells x L)) := Lib.hid (by rw [hW]; exact ((Blk.new _ _ _).alloc _).alloc _)
  have HWS : Hid (W.heap.size = w.heap.size + 3) := Lib.hid (by rw [hW]; simp)
  unfold stepCells zeroSaid at hW
  unfold stepCells
  have HW := Lib.hid hW
  have kqc : W.cell? ⟨q, 0, none⟩ = some (.pointer (some ⟨p, 0, none⟩)) := head_cell (HD.out.below HWB.out).wn
  rw [hW] at kqc
  clear hk hx hd hF hS hk2 hW
  go_enter Try.func65, Try.ntmps65
  go_wp2
  rw [← HW.out]
  have b0 : W.cell? ⟨w.heap.size + 1 + 1, 0, none⟩ = some (.int .i64 0) := HBW.out.s.cell 0
  have b1 : W.cell? ⟨w.heap.size + 1 + 1, 1, none⟩ = some (.slice none 0 0) := HBW.out.s.cell 1
  have b2 : W.cell? ⟨w.heap.size + 1 + 1, 2, none⟩ = some (.slice none 0 0) := HBW.out.s.cell 2
  have b3 : W.cell? ⟨w.heap.size + 1 + 1, 3, none⟩ = some (.slice none 0 0) := HBW.out.s.cell 3
  have b4 : W.cell? ⟨w.heap.size + 1 + 1, 4, none⟩ = some (.int .i64 0) := HBW.out.s.cell 4
  have b5 : W.cell? ⟨w.heap.size + 1 + 1, 5, none⟩ = some (.bool false) := HBW.out.s.cell 5
  have bf : ∀ i, W.frozen? ⟨w.heap.size + 1 + 1, i, none⟩ = false := HBW.out.s.frozen
  have r0 : W.cell? ⟨w.heap.size + 1, 0, none⟩ = some (.int .i64 0) := HBW.out.r.cell 0
  have r1 : W.cell? ⟨w.heap.size + 1, 1, none⟩ = some (.slice none 0 0) := HBW.out.r.cell 1
  have r2 : W.cell? ⟨w.heap.size + 1, 2, none⟩ = some (.slice none 0 0) := HBW.out.r.cell 2
  have r3 : W.cell? ⟨w.heap.size + 1, 3, none⟩ = some (.slice none 0 0) := HBW.out.r.cell 3
  have r4 : W.cell? ⟨w.heap.size + 1, 4, none⟩ = some (.int .i64 0) := HBW.out.r.cell 4
  have r5 : W.cell? ⟨w.heap.size + 1, 5, none⟩ = some (.bool false) := HBW.out.r.cell 5
  have rf : ∀ i, W.frozen? ⟨w.heap.size + 1, i, none⟩ = false := HBW.out.r.frozen
  refine bodyPost_ret (v := .agg #[.int .i64 0, .slice none 0 0, .slice none 0 0, .slice none 0 0, .int .i64 0, .bool false]) (by simp only [results, Try.results65]; go_simp) rfl ?_
  refine ⟨_, rfl, Said.code_at _ _ _, frame_wd (G := fun k => k = w.heap.size + 1 ∨ k = w.heap.size + 1 + 1) HWB.out (wd_grow (HD.out.below HWB.out) (Below.refl _ _) |>.mono fun k h => h) (Touch.refl _ _) (Touch.refl _ _) rfl HF.out (fun k hk => by have := HWS.out; rcases hk with rfl | rfl <;> omega)⟩

theorem promoted_any (q p : Nat) (X : Wnd) (S : Drv) (N : Nat) (F : Nat → Prop) (x : PStep) (L : SLay) (w : World) (B : Nat) (h8 : ¬(1 ≤ x.kind ∧ x.kind ≤ 8)) (hx : x.Fits) (hd : WD w q p X S F) (hF : ∀ k, F k → k < w.heap.size) (hI : S.Inv N) (hN : N ≤ 2199023254000) (hB : B ≤ w.heap.size) (hxa : StepAt w B L x) :
    Calls Try.prog 65 #[.pointer (some ⟨q, 0, none⟩), .agg (stepCells x L)] w fun e w' =>
      ∃ u, e = .returned u ∧ SaidAt w' w.heap.size u (plain25 S x).2 ∧ WD w' q p X (plain25 S x).1 (grow F w w') ∧ Touch F w w' := by
  have hS := hI.small hN
  by_cases h : 17 ≤ x.kind ∧ x.kind ≤ 25
  · rcases (show x.kind = 17 ∨ x.kind = 18 ∨ x.kind = 19 ∨ x.kind = 20 ∨ x.kind = 21 ∨ x.kind = 22 ∨ x.kind = 23 ∨ x.kind = 24 ∨ x.kind = 25 by omega) with h | h | h | h | h | h | h | h | h
    · rw [plain25_used h]; exact promoted_used q p X S F x L w h hx hd hF hS
    · rw [plain25_pending h]; exact promoted_pending q p X S F x L w h hx hd hF hS
    · rw [plain25_loose h]; exact promoted_loose q p X S F x L w h hx hd hF hS
    · rw [plain25_crash h]; exact promoted_crash q p X S F x L w h hx hd hF hS B hB hxa N hI hN
    · rw [plain25_image h]; exact promoted_image q p X S F x L w h hx hd hF hS N hI
    · rw [plain25_safe h]; exact promoted_safe q p X S F x L w h hx hd hF hS N hI
    · rw [plain25_flip h]; exact promoted_flip q p X S F x L w h hx hd hF hS B hB hxa
    · rw [plain25_cut h]; exact promoted_cut q p X S F x L w h hx hd hF hS
    · rw [plain25_wipe h]; exact promoted_wipe q p X S F x L w h hx hd hF hS
  · rw [plain25_call h, plain8_none h8]
    exact promoted_other q p X S F x L w h8 h hx hd hF hS

set_option maxRecDepth 100000 in
set_option maxHeartbeats 1000000 in
theorem hurt_calls (q p : Nat) (X : Wnd) (S : Drv) (F : Nat → Prop) (x : PStep) (L : SLay) (w : World) (hk : x.kind = 10) (hx : x.Fits) (hd : WD w q p X S F) (hF : ∀ k, F k → k < w.heap.size) (hX : X.Ok) (hS : S.Small) :
    Calls Try.prog 37 #[.pointer (some ⟨q, 0, none⟩), .agg (stepCells x L)] w fun e w' =>
      ∃ u, e = .returned u ∧ SaidAt w' w.heap.size u { Said.none_ with n := X.calls } ∧ WD w' q p X S (grow F w w') ∧ Touch F w w' := by
  have HOK := Lib.hid hX
  have HX := Lib.hid hx
  have HD := Lib.hid hd
  have HF := Lib.hid hF
  have HS := Lib.hid hS
  obtain ⟨V, hV⟩ : ∃ V : Int, V = X.calls := ⟨_, rfl⟩
  have HV := Lib.hid hV
  rw [← HV.out]
  obtain ⟨W, hW⟩ : ∃ W, W = ((w.alloc (.cells (stepCells x L) 69)).alloc (.cells zeroSaid 41)).alloc (.cells zeroSaid 41) := ⟨_, rfl⟩
  have HWB : Hid (Below w.heap.size w W) := Lib.hid (by rw [hW]; exact (((Below.refl _ w).alloc (Nat.le_refl _) _).alloc (by simp) _).alloc (by simp; omega) _)
  have HBW : Hid (Box W w.heap.size) := Lib.hid (by
    rw [hW]
    constructor
    · have := Blk.new ((w.alloc (.cells (stepCells x L) 69)).alloc (.cells zeroSaid 41)) 41 zeroSaid
      simpa using this
    · have := Blk.new (w.alloc (.cells (stepCells x L) 69)) 41 zeroSaid
      have := this.alloc (.cells zeroSaid 41)
      simpa using this)
  have HXW : Hid (Blk W w.heap.size 69 (stepCells x L)) := Lib.hid (by rw [hW]; exact ((Blk.new _ _ _).alloc _).alloc _)
  have HWS : Hid (W.heap.size = w.heap.size + 3) := Lib.hid (by rw [hW]; simp)
  unfold stepCells zeroSaid at hW
  rw [hk] at hW
  unfold stepCells
  rw [hk]
  have HW := Lib.hid hW
  clear hk hx hd hF hS hX hV hW
  go_enter Try.func37, Try.ntmps37
  go_wp2_with (go_at_call 27; rw [← HW.out]; refine (calls_any q _ X _ W (HD.out.below HWB.out).wn).mono ?_; rintro e w2 ⟨rfl, hw2⟩; rw [← HV.out]; have HB : Hid (Below W.heap.size W w2) := Lib.hid (hw2 ▸ Below.refl _ _); have HBX := Lib.hid (HBW.out.below HB.out); clear hw2; have b0 : w2.cell? ⟨w.heap.size + 1 + 1, 0, none⟩ = some (.int .i64 0) := HBX.out.s.cell 0; have b1 : w2.cell? ⟨w.heap.size + 1 + 1, 1, none⟩ = some (.slice none 0 0) := HBX.out.s.cell 1; have b2 : w2.cell? ⟨w.heap.size + 1 + 1, 2, none⟩ = some (.slice none 0 0) := HBX.out.s.cell 2; have b3 : w2.cell? ⟨w.heap.size + 1 + 1, 3, none⟩ = some (.slice none 0 0) := HBX.out.s.cell 3; have b4 : w2.cell? ⟨w.heap.size + 1 + 1, 4, none⟩ = some (.int .i64 0) := HBX.out.s.cell 4; have b5 : w2.cell? ⟨w.heap.size + 1 + 1, 5, none⟩ = some (.bool false) := HBX.out.s.cell 5; have bf : ∀ i, w2.frozen? ⟨w.heap.size + 1 + 1, i, none⟩ = false := HBX.out.s.frozen; have r0 : w2.cell? ⟨w.heap.size + 1, 0, none⟩ = some (.int .i64 0) := HBX.out.r.cell 0; have r1 : w2.cell? ⟨w.heap.size + 1, 1, none⟩ = some (.slice none 0 0) := HBX.out.r.cell 1; have r2 : w2.cell? ⟨w.heap.size + 1, 2, none⟩ = some (.slice none 0 0) := HBX.out.r.cell 2; have r3 : w2.cell? ⟨w.heap.size + 1, 3, none⟩ = some (.slice none 0 0) := HBX.out.r.cell 3; have r4 : w2.cell? ⟨w.heap.size + 1, 4, none⟩ = some (.int .i64 0) := HBX.out.r.cell 4; have r5 : w2.cell? ⟨w.heap.size + 1, 5, none⟩ = some (.bool false) := HBX.out.r.cell 5; have rf : ∀ i, w2.frozen? ⟨w.heap.size + 1, i, none⟩ = false := HBX.out.r.frozen)
  refine bodyPost_ret (v := .agg #[.int .i64 0, .slice none 0 0, .slice none 0 0, .slice none 0 0, .int .i64 V, .bool false]) (by simp only [results, Try.results37]; go_simp) rfl ?_
  have GB : ∀ k, (k = w.heap.size + 1 ∨ k = w.heap.size + 1 + 1) → k < W.heap.size := fun k hk => by have := HWS.out; rcases hk with rfl | rfl <;> omega
  exact ⟨_, rfl, ⟨_, _, _, rfl, World.ownsRow_nil _ _ _ _, World.ownsRow_nil _ _ _ _, FilesAt.nil _ _⟩, frame_wd (G := fun k => k = w.heap.size + 1 ∨ k = w.heap.size + 1 + 1) HWB.out (wd_grow (HD.out.below HWB.out) HB.out |>.mono fun k h => h) (Touch.of_below HB.out) (by exact (((((((Touch.refl _ _).set (Or.inr rfl) _).set (Or.inl rfl) _).set (Or.inl rfl) _).set (Or.inl rfl) _).set (Or.inl rfl) _).set (Or.inl rfl) _).set (Or.inl rfl) _) (by simp only [size_set]) HF.out (fun k hk => by have := HWS.out; rcases hk with rfl | rfl <;> omega)⟩

set_option maxRecDepth 100000 in
set_option maxHeartbeats 1000000 in
theorem hurt_lit (q p : Nat) (X : Wnd) (S : Drv) (F : Nat → Prop) (x : PStep) (L : SLay) (w : World) (hk : x.kind = 13) (hx : x.Fits) (hd : WD w q p X S F) (hF : ∀ k, F k → k < w.heap.size) (hX : X.Ok) (hS : S.Small) :
    Calls Try.prog 37 #[.pointer (some ⟨q, 0, none⟩), .agg (stepCells x L)] w fun e w' =>
      ∃ u, e = .returned u ∧ SaidAt w' w.heap.size u { Said.none_ with yes := X.lit } ∧ WD w' q p X S (grow F w w') ∧ Touch F w w' := by
  have HOK := Lib.hid hX
  have HX := Lib.hid hx
  have HD := Lib.hid hd
  have HF := Lib.hid hF
  have HS := Lib.hid hS
  obtain ⟨V, hV⟩ : ∃ V : Bool, V = X.lit := ⟨_, rfl⟩
  have HV := Lib.hid hV
  rw [← HV.out]
  obtain ⟨W, hW⟩ : ∃ W, W = ((w.alloc (.cells (stepCells x L) 69)).alloc (.cells zeroSaid 41)).alloc (.cells zeroSaid 41) := ⟨_, rfl⟩
  have HWB : Hid (Below w.heap.size w W) := Lib.hid (by rw [hW]; exact (((Below.refl _ w).alloc (Nat.le_refl _) _).alloc (by simp) _).alloc (by simp; omega) _)
  have HBW : Hid (Box W w.heap.size) := Lib.hid (by
    rw [hW]
    constructor
    · have := Blk.new ((w.alloc (.cells (stepCells x L) 69)).alloc (.cells zeroSaid 41)) 41 zeroSaid
      simpa using this
    · have := Blk.new (w.alloc (.cells (stepCells x L) 69)) 41 zeroSaid
      have := this.alloc (.cells zeroSaid 41)
      simpa using this)
  have HXW : Hid (Blk W w.heap.size 69 (stepCells x L)) := Lib.hid (by rw [hW]; exact ((Blk.new _ _ _).alloc _).alloc _)
  have HWS : Hid (W.heap.size = w.heap.size + 3) := Lib.hid (by rw [hW]; simp)
  unfold stepCells zeroSaid at hW
  rw [hk] at hW
  unfold stepCells
  rw [hk]
  have HW := Lib.hid hW
  clear hk hx hd hF hS hX hV hW
  go_enter Try.func37, Try.ntmps37
  go_wp2_with (go_at_call 28; rw [← HW.out]; refine (wlit_any q p X S _ W (HD.out.below HWB.out)).mono ?_; rintro e w2 ⟨rfl, hw2⟩; rw [← HV.out]; have HB : Hid (Below W.heap.size W w2) := Lib.hid (hw2 ▸ Below.refl _ _); have HBX := Lib.hid (HBW.out.below HB.out); clear hw2; have b0 : w2.cell? ⟨w.heap.size + 1 + 1, 0, none⟩ = some (.int .i64 0) := HBX.out.s.cell 0; have b1 : w2.cell? ⟨w.heap.size + 1 + 1, 1, none⟩ = some (.slice none 0 0) := HBX.out.s.cell 1; have b2 : w2.cell? ⟨w.heap.size + 1 + 1, 2, none⟩ = some (.slice none 0 0) := HBX.out.s.cell 2; have b3 : w2.cell? ⟨w.heap.size + 1 + 1, 3, none⟩ = some (.slice none 0 0) := HBX.out.s.cell 3; have b4 : w2.cell? ⟨w.heap.size + 1 + 1, 4, none⟩ = some (.int .i64 0) := HBX.out.s.cell 4; have b5 : w2.cell? ⟨w.heap.size + 1 + 1, 5, none⟩ = some (.bool false) := HBX.out.s.cell 5; have bf : ∀ i, w2.frozen? ⟨w.heap.size + 1 + 1, i, none⟩ = false := HBX.out.s.frozen; have r0 : w2.cell? ⟨w.heap.size + 1, 0, none⟩ = some (.int .i64 0) := HBX.out.r.cell 0; have r1 : w2.cell? ⟨w.heap.size + 1, 1, none⟩ = some (.slice none 0 0) := HBX.out.r.cell 1; have r2 : w2.cell? ⟨w.heap.size + 1, 2, none⟩ = some (.slice none 0 0) := HBX.out.r.cell 2; have r3 : w2.cell? ⟨w.heap.size + 1, 3, none⟩ = some (.slice none 0 0) := HBX.out.r.cell 3; have r4 : w2.cell? ⟨w.heap.size + 1, 4, none⟩ = some (.int .i64 0) := HBX.out.r.cell 4; have r5 : w2.cell? ⟨w.heap.size + 1, 5, none⟩ = some (.bool false) := HBX.out.r.cell 5; have rf : ∀ i, w2.frozen? ⟨w.heap.size + 1, i, none⟩ = false := HBX.out.r.frozen)
  refine bodyPost_ret (v := .agg #[.int .i64 0, .slice none 0 0, .slice none 0 0, .slice none 0 0, .int .i64 0, .bool V]) (by simp only [results, Try.results37]; go_simp) rfl ?_
  have GB : ∀ k, (k = w.heap.size + 1 ∨ k = w.heap.size + 1 + 1) → k < W.heap.size := fun k hk => by have := HWS.out; rcases hk with rfl | rfl <;> omega
  exact ⟨_, rfl, ⟨_, _, _, rfl, World.ownsRow_nil _ _ _ _, World.ownsRow_nil _ _ _ _, FilesAt.nil _ _⟩, frame_wd (G := fun k => k = w.heap.size + 1 ∨ k = w.heap.size + 1 + 1) HWB.out (wd_grow (HD.out.below HWB.out) HB.out |>.mono fun k h => h) (Touch.of_below HB.out) (by exact (((((((Touch.refl _ _).set (Or.inr rfl) _).set (Or.inl rfl) _).set (Or.inl rfl) _).set (Or.inl rfl) _).set (Or.inl rfl) _).set (Or.inl rfl) _).set (Or.inl rfl) _) (by simp only [size_set]) HF.out (fun k hk => by have := HWS.out; rcases hk with rfl | rfl <;> omega)⟩

set_option maxRecDepth 100000 in
set_option maxHeartbeats 1000000 in
theorem hurt_on (q p : Nat) (X : Wnd) (S : Drv) (F : Nat → Prop) (x : PStep) (L : SLay) (w : World) (hk : x.kind = 16) (hx : x.Fits) (hd : WD w q p X S F) (hF : ∀ k, F k → k < w.heap.size) (hX : X.Ok) (hS : S.Small) :
    Calls Try.prog 37 #[.pointer (some ⟨q, 0, none⟩), .agg (stepCells x L)] w fun e w' =>
      ∃ u, e = .returned u ∧ SaidAt w' w.heap.size u { Said.none_ with yes := (!X.down) } ∧ WD w' q p X S (grow F w w') ∧ Touch F w w' := by
  have HOK := Lib.hid hX
  have HX := Lib.hid hx
  have HD := Lib.hid hd
  have HF := Lib.hid hF
  have HS := Lib.hid hS
  obtain ⟨V, hV⟩ : ∃ V : Bool, V = (!X.down) := ⟨_, rfl⟩
  have HV := Lib.hid hV
  rw [← HV.out]
  obtain ⟨W, hW⟩ : ∃ W, W = ((w.alloc (.cells (stepCells x L) 69)).alloc (.cells zeroSaid 41)).alloc (.cells zeroSaid 41) := ⟨_, rfl⟩
  have HWB : Hid (Below w.heap.size w W) := Lib.hid (by rw [hW]; exact (((Below.refl _ w).alloc (Nat.le_refl _) _).alloc (by simp) _).alloc (by simp; omega) _)
  have HBW : Hid (Box W w.heap.size) := Lib.hid (by
    rw [hW]
    constructor
    · have := Blk.new ((w.alloc (.cells (stepCells x L) 69)).alloc (.cells zeroSaid 41)) 41 zeroSaid
      simpa using this
    · have := Blk.new (w.alloc (.cells (stepCells x L) 69)) 41 zeroSaid
      have := this.alloc (.cells zeroSaid 41)
      simpa using this)
  have HXW : Hid (Blk W w.heap.size 69 (stepCells x L)) := Lib.hid (by rw [hW]; exact ((Blk.new _ _ _).alloc _).alloc _)
  have HWS : Hid (W.heap.size = w.heap.size + 3) := Lib.hid (by rw [hW]; simp)
  unfold stepCells zeroSaid at hW
  rw [hk] at hW
  unfold stepCells
  rw [hk]
  have HW := Lib.hid hW
  clear hk hx hd hF hS hX hV hW
  go_enter Try.func37, Try.ntmps37
  go_wp2_with (go_at_call 29; rw [← HW.out]; refine (on_any q _ X _ W (HD.out.below HWB.out).wn).mono ?_; rintro e w2 ⟨rfl, hw2⟩; rw [← HV.out]; have HB : Hid (Below W.heap.size W w2) := Lib.hid (hw2 ▸ Below.refl _ _); have HBX := Lib.hid (HBW.out.below HB.out); clear hw2; have b0 : w2.cell? ⟨w.heap.size + 1 + 1, 0, none⟩ = some (.int .i64 0) := HBX.out.s.cell 0; have b1 : w2.cell? ⟨w.heap.size + 1 + 1, 1, none⟩ = some (.slice none 0 0) := HBX.out.s.cell 1; have b2 : w2.cell? ⟨w.heap.size + 1 + 1, 2, none⟩ = some (.slice none 0 0) := HBX.out.s.cell 2; have b3 : w2.cell? ⟨w.heap.size + 1 + 1, 3, none⟩ = some (.slice none 0 0) := HBX.out.s.cell 3; have b4 : w2.cell? ⟨w.heap.size + 1 + 1, 4, none⟩ = some (.int .i64 0) := HBX.out.s.cell 4; have b5 : w2.cell? ⟨w.heap.size + 1 + 1, 5, none⟩ = some (.bool false) := HBX.out.s.cell 5; have bf : ∀ i, w2.frozen? ⟨w.heap.size + 1 + 1, i, none⟩ = false := HBX.out.s.frozen; have r0 : w2.cell? ⟨w.heap.size + 1, 0, none⟩ = some (.int .i64 0) := HBX.out.r.cell 0; have r1 : w2.cell? ⟨w.heap.size + 1, 1, none⟩ = some (.slice none 0 0) := HBX.out.r.cell 1; have r2 : w2.cell? ⟨w.heap.size + 1, 2, none⟩ = some (.slice none 0 0) := HBX.out.r.cell 2; have r3 : w2.cell? ⟨w.heap.size + 1, 3, none⟩ = some (.slice none 0 0) := HBX.out.r.cell 3; have r4 : w2.cell? ⟨w.heap.size + 1, 4, none⟩ = some (.int .i64 0) := HBX.out.r.cell 4; have r5 : w2.cell? ⟨w.heap.size + 1, 5, none⟩ = some (.bool false) := HBX.out.r.cell 5; have rf : ∀ i, w2.frozen? ⟨w.heap.size + 1, i, none⟩ = false := HBX.out.r.frozen)
  refine bodyPost_ret (v := .agg #[.int .i64 0, .slice none 0 0, .slice none 0 0, .slice none 0 0, .int .i64 0, .bool V]) (by simp only [results, Try.results37]; go_simp) rfl ?_
  have GB : ∀ k, (k = w.heap.size + 1 ∨ k = w.heap.size + 1 + 1) → k < W.heap.size := fun k hk => by have := HWS.out; rcases hk with rfl | rfl <;> omega
  exact ⟨_, rfl, ⟨_, _, _, rfl, World.ownsRow_nil _ _ _ _, World.ownsRow_nil _ _ _ _, FilesAt.nil _ _⟩, frame_wd (G := fun k => k = w.heap.size + 1 ∨ k = w.heap.size + 1 + 1) HWB.out (wd_grow (HD.out.below HWB.out) HB.out |>.mono fun k h => h) (Touch.of_below HB.out) (by exact (((((((Touch.refl _ _).set (Or.inr rfl) _).set (Or.inl rfl) _).set (Or.inl rfl) _).set (Or.inl rfl) _).set (Or.inl rfl) _).set (Or.inl rfl) _).set (Or.inl rfl) _) (by simp only [size_set]) HF.out (fun k hk => by have := HWS.out; rcases hk with rfl | rfl <;> omega)⟩

set_option maxRecDepth 100000 in
set_option maxHeartbeats 1000000 in
theorem hurt_offline (q p : Nat) (X : Wnd) (S : Drv) (F : Nat → Prop) (x : PStep) (L : SLay) (w : World) (hk : x.kind = 11) (hx : x.Fits) (hd : WD w q p X S F) (hF : ∀ k, F k → k < w.heap.size) (hX : X.Ok) (hS : S.Small) :
    Calls Try.prog 37 #[.pointer (some ⟨q, 0, none⟩), .agg (stepCells x L)] w fun e w' =>
      ∃ u, e = .returned u ∧ SaidAt w' w.heap.size u Said.none_ ∧ WD w' q p { X with away := x.yes } S (grow F w w') ∧ Touch F w w' := by
  have HOK := Lib.hid hX
  have HX := Lib.hid hx
  have HD := Lib.hid hd
  have HF := Lib.hid hF
  have HS := Lib.hid hS
  obtain ⟨Y, hY⟩ : ∃ Y : Wnd, Y = { X with away := x.yes } := ⟨_, rfl⟩
  have HY := Lib.hid hY
  rw [← HY.out]
  obtain ⟨W, hW⟩ : ∃ W, W = ((w.alloc (.cells (stepCells x L) 69)).alloc (.cells zeroSaid 41)).alloc (.cells zeroSaid 41) := ⟨_, rfl⟩
  have HWB : Hid (Below w.heap.size w W) := Lib.hid (by rw [hW]; exact (((Below.refl _ w).alloc (Nat.le_refl _) _).alloc (by simp) _).alloc (by simp; omega) _)
  have HBW : Hid (Box W w.heap.size) := Lib.hid (by
    rw [hW]
    constructor
    · have := Blk.new ((w.alloc (.cells (stepCells x L) 69)).alloc (.cells zeroSaid 41)) 41 zeroSaid
      simpa using this
    · have := Blk.new (w.alloc (.cells (stepCells x L) 69)) 41 zeroSaid
      have := this.alloc (.cells zeroSaid 41)
      simpa using this)
  have HXW : Hid (Blk W w.heap.size 69 (stepCells x L)) := Lib.hid (by rw [hW]; exact ((Blk.new _ _ _).alloc _).alloc _)
  have HWS : Hid (W.heap.size = w.heap.size + 3) := Lib.hid (by rw [hW]; simp)
  unfold stepCells zeroSaid at hW
  rw [hk] at hW
  unfold stepCells
  rw [hk]
  have HW := Lib.hid hW
  clear hk hx hd hF hS hX hY hW
  go_enter Try.func37, Try.ntmps37
  go_wp2_with (go_at_call 23; rw [← HW.out]; refine (woffline_any q p X S F x.yes W (HD.out.below HWB.out)).mono ?_; rintro e w2 ⟨rfl, hd2, ht2⟩; rw [← HY.out] at hd2; have HBX := Lib.hid (HBW.out.touch ht2 HF.out); have HD2 := Lib.hid hd2; have HT2 := Lib.hid ht2; clear hd2 ht2; have b0 : w2.cell? ⟨w.heap.size + 1 + 1, 0, none⟩ = some (.int .i64 0) := HBX.out.s.cell 0; have b1 : w2.cell? ⟨w.heap.size + 1 + 1, 1, none⟩ = some (.slice none 0 0) := HBX.out.s.cell 1; have b2 : w2.cell? ⟨w.heap.size + 1 + 1, 2, none⟩ = some (.slice none 0 0) := HBX.out.s.cell 2; have b3 : w2.cell? ⟨w.heap.size + 1 + 1, 3, none⟩ = some (.slice none 0 0) := HBX.out.s.cell 3; have b4 : w2.cell? ⟨w.heap.size + 1 + 1, 4, none⟩ = some (.int .i64 0) := HBX.out.s.cell 4; have b5 : w2.cell? ⟨w.heap.size + 1 + 1, 5, none⟩ = some (.bool false) := HBX.out.s.cell 5; have bf : ∀ i, w2.frozen? ⟨w.heap.size + 1 + 1, i, none⟩ = false := HBX.out.s.frozen; have r0 : w2.cell? ⟨w.heap.size + 1, 0, none⟩ = some (.int .i64 0) := HBX.out.r.cell 0; have r1 : w2.cell? ⟨w.heap.size + 1, 1, none⟩ = some (.slice none 0 0) := HBX.out.r.cell 1; have r2 : w2.cell? ⟨w.heap.size + 1, 2, none⟩ = some (.slice none 0 0) := HBX.out.r.cell 2; have r3 : w2.cell? ⟨w.heap.size + 1, 3, none⟩ = some (.slice none 0 0) := HBX.out.r.cell 3; have r4 : w2.cell? ⟨w.heap.size + 1, 4, none⟩ = some (.int .i64 0) := HBX.out.r.cell 4; have r5 : w2.cell? ⟨w.heap.size + 1, 5, none⟩ = some (.bool false) := HBX.out.r.cell 5; have rf : ∀ i, w2.frozen? ⟨w.heap.size + 1, i, none⟩ = false := HBX.out.r.frozen)
  refine bodyPost_ret (v := .agg #[.int .i64 0, .slice none 0 0, .slice none 0 0, .slice none 0 0, .int .i64 0, .bool false]) (by simp only [results, Try.results37]; go_simp) rfl ?_
  refine ⟨_, rfl, Said.code_at _ _ _, frame_wd (G := fun k => k = w.heap.size + 1 ∨ k = w.heap.size + 1 + 1) HWB.out HD2.out HT2.out ?_ ?_ HF.out (fun k hk => by have := HWS.out; rcases hk with rfl | rfl <;> omega)⟩
  · exact ((((((Touch.refl _ _).set (Or.inl rfl) _).set (Or.inl rfl) _).set (Or.inl rfl) _).set (Or.inl rfl) _).set (Or.inl rfl) _).set (Or.inl rfl) _
  · simp only [size_set]

set_option maxRecDepth 100000 in
set_option maxHeartbeats 1000000 in
theorem hurt_fuse (q p : Nat) (X : Wnd) (S : Drv) (F : Nat → Prop) (x : PStep) (L : SLay) (w : World) (hk : x.kind = 12) (hx : x.Fits) (hd : WD w q p X S F) (hF : ∀ k, F k → k < w.heap.size) (hX : X.Ok) (hS : S.Small) :
    Calls Try.prog 37 #[.pointer (some ⟨q, 0, none⟩), .agg (stepCells x L)] w fun e w' =>
      ∃ u, e = .returned u ∧ SaidAt w' w.heap.size u Said.none_ ∧ WD w' q p (X.setFuse x.a x.b x.c) S (grow F w w') ∧ Touch F w w' := by
  have HOK := Lib.hid hX
  have HX := Lib.hid hx
  have HD := Lib.hid hd
  have HF := Lib.hid hF
  have HS := Lib.hid hS
  obtain ⟨Y, hY⟩ : ∃ Y : Wnd, Y = (X.setFuse x.a x.b x.c) := ⟨_, rfl⟩
  have HY := Lib.hid hY
  rw [← HY.out]
  obtain ⟨W, hW⟩ : ∃ W, W = ((w.alloc (.cells (stepCells x L) 69)).alloc (.cells zeroSaid 41)).alloc (.cells zeroSaid 41) := ⟨_, rfl⟩
  have HWB : Hid (Below w.heap.size w W) := Lib.hid (by rw [hW]; exact (((Below.refl _ w).alloc (Nat.le_refl _) _).alloc (by simp) _).alloc (by simp; omega) _)
  have HBW : Hid (Box W w.heap.size) := Lib.hid (by
    rw [hW]
    constructor
    · have := Blk.new ((w.alloc (.cells (stepCells x L) 69)).alloc (.cells zeroSaid 41)) 41 zeroSaid
      simpa using this
    · have := Blk.new (w.alloc (.cells (stepCells x L) 69)) 41 zeroSaid
      have := this.alloc (.cells zeroSaid 41)
      simpa using this)
  have HXW : Hid (Blk W w.heap.size 69 (stepCells x L)) := Lib.hid (by rw [hW]; exact ((Blk.new _ _ _).alloc _).alloc _)
  have HWS : Hid (W.heap.size = w.heap.size + 3) := Lib.hid (by rw [hW]; simp)
  unfold stepCells zeroSaid at hW
  rw [hk] at hW
  unfold stepCells
  rw [hk]
  have HW := Lib.hid hW
  clear hk hx hd hF hS hX hY hW
  go_enter Try.func37, Try.ntmps37
  go_wp2_with (go_at_call 24; rw [← HW.out]; refine (wfuse_any q p X S F x.a x.b x.c W (HD.out.below HWB.out)).mono ?_; rintro e w2 ⟨rfl, hd2, ht2⟩; rw [← HY.out] at hd2; have HBX := Lib.hid (HBW.out.touch ht2 HF.out); have HD2 := Lib.hid hd2; have HT2 := Lib.hid ht2; clear hd2 ht2; have b0 : w2.cell? ⟨w.heap.size + 1 + 1, 0, none⟩ = some (.int .i64 0) := HBX.out.s.cell 0; have b1 : w2.cell? ⟨w.heap.size + 1 + 1, 1, none⟩ = some (.slice none 0 0) := HBX.out.s.cell 1; have b2 : w2.cell? ⟨w.heap.size + 1 + 1, 2, none⟩ = some (.slice none 0 0) := HBX.out.s.cell 2; have b3 : w2.cell? ⟨w.heap.size + 1 + 1, 3, none⟩ = some (.slice none 0 0) := HBX.out.s.cell 3; have b4 : w2.cell? ⟨w.heap.size + 1 + 1, 4, none⟩ = some (.int .i64 0) := HBX.out.s.cell 4; have b5 : w2.cell? ⟨w.heap.size + 1 + 1, 5, none⟩ = some (.bool false) := HBX.out.s.cell 5; have bf : ∀ i, w2.frozen? ⟨w.heap.size + 1 + 1, i, none⟩ = false := HBX.out.s.frozen; have r0 : w2.cell? ⟨w.heap.size + 1, 0, none⟩ = some (.int .i64 0) := HBX.out.r.cell 0; have r1 : w2.cell? ⟨w.heap.size + 1, 1, none⟩ = some (.slice none 0 0) := HBX.out.r.cell 1; have r2 : w2.cell? ⟨w.heap.size + 1, 2, none⟩ = some (.slice none 0 0) := HBX.out.r.cell 2; have r3 : w2.cell? ⟨w.heap.size + 1, 3, none⟩ = some (.slice none 0 0) := HBX.out.r.cell 3; have r4 : w2.cell? ⟨w.heap.size + 1, 4, none⟩ = some (.int .i64 0) := HBX.out.r.cell 4; have r5 : w2.cell? ⟨w.heap.size + 1, 5, none⟩ = some (.bool false) := HBX.out.r.cell 5; have rf : ∀ i, w2.frozen? ⟨w.heap.size + 1, i, none⟩ = false := HBX.out.r.frozen)
  refine bodyPost_ret (v := .agg #[.int .i64 0, .slice none 0 0, .slice none 0 0, .slice none 0 0, .int .i64 0, .bool false]) (by simp only [results, Try.results37]; go_simp) rfl ?_
  refine ⟨_, rfl, Said.code_at _ _ _, frame_wd (G := fun k => k = w.heap.size + 1 ∨ k = w.heap.size + 1 + 1) HWB.out HD2.out HT2.out ?_ ?_ HF.out (fun k hk => by have := HWS.out; rcases hk with rfl | rfl <;> omega)⟩
  · exact ((((((Touch.refl _ _).set (Or.inl rfl) _).set (Or.inl rfl) _).set (Or.inl rfl) _).set (Or.inl rfl) _).set (Or.inl rfl) _).set (Or.inl rfl) _
  · simp only [size_set]

set_option maxRecDepth 100000 in
set_option maxHeartbeats 1000000 in
theorem hurt_rest (q p : Nat) (X : Wnd) (S : Drv) (F : Nat → Prop) (x : PStep) (L : SLay) (w : World) (hk : x.kind = 14) (hx : x.Fits) (hd : WD w q p X S F) (hF : ∀ k, F k → k < w.heap.size) (hX : X.Ok) (hS : S.Small) :
    Calls Try.prog 37 #[.pointer (some ⟨q, 0, none⟩), .agg (stepCells x L)] w fun e w' =>
      ∃ u, e = .returned u ∧ SaidAt w' w.heap.size u Said.none_ ∧ WD w' q p (X.rest x.yes) S (grow F w w') ∧ Touch F w w' := by
  have HOK := Lib.hid hX
  have HX := Lib.hid hx
  have HD := Lib.hid hd
  have HF := Lib.hid hF
  have HS := Lib.hid hS
  obtain ⟨Y, hY⟩ : ∃ Y : Wnd, Y = (X.rest x.yes) := ⟨_, rfl⟩
  have HY := Lib.hid hY
  rw [← HY.out]
  obtain ⟨W, hW⟩ : ∃ W, W = ((w.alloc (.cells (stepCells x L) 69)).alloc (.cells zeroSaid 41)).alloc (.cells zeroSaid 41) := ⟨_, rfl⟩
  have HWB : Hid (Below w.heap.size w W) := Lib.hid (by rw [hW]; exact (((Below.refl _ w).alloc (Nat.le_refl _) _).alloc (by simp) _).alloc (by simp; omega) _)
  have HBW : Hid (Box W w.heap.size) := Lib.hid (by
    rw [hW]
    constructor
    · have := Blk.new ((w.alloc (.cells (stepCells x L) 69)).alloc (.cells zeroSaid 41)) 41 zeroSaid
      simpa using this
    · have := Blk.new (w.alloc (.cells (stepCells x L) 69)) 41 zeroSaid
      have := this.alloc (.cells zeroSaid 41)
      simpa using this)
  have HXW : Hid (Blk W w.heap.size 69 (stepCells x L)) := Lib.hid (by rw [hW]; exact ((Blk.new _ _ _).alloc _).alloc _)
  have HWS : Hid (W.heap.size = w.heap.size + 3) := Lib.hid (by rw [hW]; simp)
  unfold stepCells zeroSaid at hW
  rw [hk] at hW
  unfold stepCells
  rw [hk]
  have HW := Lib.hid hW
  clear hk hx hd hF hS hX hY hW
  go_enter Try.func37, Try.ntmps37
  go_wp2_with (go_at_call 25; rw [← HW.out]; refine (wrest_any q p X S F x.yes W (HD.out.below HWB.out) HOK.out).mono ?_; rintro e w2 ⟨rfl, hd2, ht2⟩; rw [← HY.out] at hd2; have HBX := Lib.hid (HBW.out.touch ht2 HF.out); have HD2 := Lib.hid hd2; have HT2 := Lib.hid ht2; clear hd2 ht2; have b0 : w2.cell? ⟨w.heap.size + 1 + 1, 0, none⟩ = some (.int .i64 0) := HBX.out.s.cell 0; have b1 : w2.cell? ⟨w.heap.size + 1 + 1, 1, none⟩ = some (.slice none 0 0) := HBX.out.s.cell 1; have b2 : w2.cell? ⟨w.heap.size + 1 + 1, 2, none⟩ = some (.slice none 0 0) := HBX.out.s.cell 2; have b3 : w2.cell? ⟨w.heap.size + 1 + 1, 3, none⟩ = some (.slice none 0 0) := HBX.out.s.cell 3; have b4 : w2.cell? ⟨w.heap.size + 1 + 1, 4, none⟩ = some (.int .i64 0) := HBX.out.s.cell 4; have b5 : w2.cell? ⟨w.heap.size + 1 + 1, 5, none⟩ = some (.bool false) := HBX.out.s.cell 5; have bf : ∀ i, w2.frozen? ⟨w.heap.size + 1 + 1, i, none⟩ = false := HBX.out.s.frozen; have r0 : w2.cell? ⟨w.heap.size + 1, 0, none⟩ = some (.int .i64 0) := HBX.out.r.cell 0; have r1 : w2.cell? ⟨w.heap.size + 1, 1, none⟩ = some (.slice none 0 0) := HBX.out.r.cell 1; have r2 : w2.cell? ⟨w.heap.size + 1, 2, none⟩ = some (.slice none 0 0) := HBX.out.r.cell 2; have r3 : w2.cell? ⟨w.heap.size + 1, 3, none⟩ = some (.slice none 0 0) := HBX.out.r.cell 3; have r4 : w2.cell? ⟨w.heap.size + 1, 4, none⟩ = some (.int .i64 0) := HBX.out.r.cell 4; have r5 : w2.cell? ⟨w.heap.size + 1, 5, none⟩ = some (.bool false) := HBX.out.r.cell 5; have rf : ∀ i, w2.frozen? ⟨w.heap.size + 1, i, none⟩ = false := HBX.out.r.frozen)
  refine bodyPost_ret (v := .agg #[.int .i64 0, .slice none 0 0, .slice none 0 0, .slice none 0 0, .int .i64 0, .bool false]) (by simp only [results, Try.results37]; go_simp) rfl ?_
  refine ⟨_, rfl, Said.code_at _ _ _, frame_wd (G := fun k => k = w.heap.size + 1 ∨ k = w.heap.size + 1 + 1) HWB.out HD2.out HT2.out ?_ ?_ HF.out (fun k hk => by have := HWS.out; rcases hk with rfl | rfl <;> omega)⟩
  · exact ((((((Touch.refl _ _).set (Or.inl rfl) _).set (Or.inl rfl) _).set (Or.inl rfl) _).set (Or.inl rfl) _).set (Or.inl rfl) _).set (Or.inl rfl) _
  · simp only [size_set]

set_option maxRecDepth 100000 in
set_option maxHeartbeats 1000000 in
theorem hurt_power (q p : Nat) (X : Wnd) (S : Drv) (F : Nat → Prop) (x : PStep) (L : SLay) (w : World) (hk : x.kind = 15) (hx : x.Fits) (hd : WD w q p X S F) (hF : ∀ k, F k → k < w.heap.size) (hX : X.Ok) (hS : S.Small) :
    Calls Try.prog 37 #[.pointer (some ⟨q, 0, none⟩), .agg (stepCells x L)] w fun e w' =>
      ∃ u, e = .returned u ∧ SaidAt w' w.heap.size u Said.none_ ∧ WD w' q p { X with down := !x.yes } S (grow F w w') ∧ Touch F w w' := by
  have HOK := Lib.hid hX
  have HX := Lib.hid hx
  have HD := Lib.hid hd
  have HF := Lib.hid hF
  have HS := Lib.hid hS
  obtain ⟨Y, hY⟩ : ∃ Y : Wnd, Y = { X with down := !x.yes } := ⟨_, rfl⟩
  have HY := Lib.hid hY
  rw [← HY.out]
  obtain ⟨W, hW⟩ : ∃ W, W = ((w.alloc (.cells (stepCells x L) 69)).alloc (.cells zeroSaid 41)).alloc (.cells zeroSaid 41) := ⟨_, rfl⟩
  have HWB : Hid (Below w.heap.size w W) := Lib.hid (by rw [hW]; exact (((Below.refl _ w).alloc (Nat.le_refl _) _).alloc (by simp) _).alloc (by simp; omega) _)
  have HBW : Hid (Box W w.heap.size) := Lib.hid (by
    rw [hW]
    constructor
    · have := Blk.new ((w.alloc (.cells (stepCells x L) 69)).alloc (.cells zeroSaid 41)) 41 zeroSaid
      simpa using this
    · have := Blk.new (w.alloc (.cells (stepCells x L) 69)) 41 zeroSaid
      have := this.alloc (.cells zeroSaid 41)
      simpa using this)
  have HXW : Hid (Blk W w.heap.size 69 (stepCells x L)) := Lib.hid (by rw [hW]; exact ((Blk.new _ _ _).alloc _).alloc _)
  have HWS : Hid (W.heap.size = w.heap.size + 3) := Lib.hid (by rw [hW]; simp)
  unfold stepCells zeroSaid at hW
  rw [hk] at hW
  unfold stepCells
  rw [hk]
  have HW := Lib.hid hW
  clear hk hx hd hF hS hX hY hW
  go_enter Try.func37, Try.ntmps37
  go_wp2_with (go_at_call 26; rw [← HW.out]; refine (wpower_any q p X S F x.yes W (HD.out.below HWB.out)).mono ?_; rintro e w2 ⟨rfl, hd2, ht2⟩; rw [← HY.out] at hd2; have HBX := Lib.hid (HBW.out.touch ht2 HF.out); have HD2 := Lib.hid hd2; have HT2 := Lib.hid ht2; clear hd2 ht2; have b0 : w2.cell? ⟨w.heap.size + 1 + 1, 0, none⟩ = some (.int .i64 0) := HBX.out.s.cell 0; have b1 : w2.cell? ⟨w.heap.size + 1 + 1, 1, none⟩ = some (.slice none 0 0) := HBX.out.s.cell 1; have b2 : w2.cell? ⟨w.heap.size + 1 + 1, 2, none⟩ = some (.slice none 0 0) := HBX.out.s.cell 2; have b3 : w2.cell? ⟨w.heap.size + 1 + 1, 3, none⟩ = some (.slice none 0 0) := HBX.out.s.cell 3; have b4 : w2.cell? ⟨w.heap.size + 1 + 1, 4, none⟩ = some (.int .i64 0) := HBX.out.s.cell 4; have b5 : w2.cell? ⟨w.heap.size + 1 + 1, 5, none⟩ = some (.bool false) := HBX.out.s.cell 5; have bf : ∀ i, w2.frozen? ⟨w.heap.size + 1 + 1, i, none⟩ = false := HBX.out.s.frozen; have r0 : w2.cell? ⟨w.heap.size + 1, 0, none⟩ = some (.int .i64 0) := HBX.out.r.cell 0; have r1 : w2.cell? ⟨w.heap.size + 1, 1, none⟩ = some (.slice none 0 0) := HBX.out.r.cell 1; have r2 : w2.cell? ⟨w.heap.size + 1, 2, none⟩ = some (.slice none 0 0) := HBX.out.r.cell 2; have r3 : w2.cell? ⟨w.heap.size + 1, 3, none⟩ = some (.slice none 0 0) := HBX.out.r.cell 3; have r4 : w2.cell? ⟨w.heap.size + 1, 4, none⟩ = some (.int .i64 0) := HBX.out.r.cell 4; have r5 : w2.cell? ⟨w.heap.size + 1, 5, none⟩ = some (.bool false) := HBX.out.r.cell 5; have rf : ∀ i, w2.frozen? ⟨w.heap.size + 1, i, none⟩ = false := HBX.out.r.frozen)
  refine bodyPost_ret (v := .agg #[.int .i64 0, .slice none 0 0, .slice none 0 0, .slice none 0 0, .int .i64 0, .bool false]) (by simp only [results, Try.results37]; go_simp) rfl ?_
  refine ⟨_, rfl, Said.code_at _ _ _, frame_wd (G := fun k => k = w.heap.size + 1 ∨ k = w.heap.size + 1 + 1) HWB.out HD2.out HT2.out ?_ ?_ HF.out (fun k hk => by have := HWS.out; rcases hk with rfl | rfl <;> omega)⟩
  · exact ((((((Touch.refl _ _).set (Or.inl rfl) _).set (Or.inl rfl) _).set (Or.inl rfl) _).set (Or.inl rfl) _).set (Or.inl rfl) _).set (Or.inl rfl) _
  · simp only [size_set]

set_option maxRecDepth 100000 in
set_option maxHeartbeats 1000000 in
theorem hurt_arm (q p : Nat) (X : Wnd) (S : Drv) (F : Nat → Prop) (x : PStep) (L : SLay) (w : World) (hk : x.kind = 9) (hx : x.Fits) (hd : WD w q p X S F) (hF : ∀ k, F k → k < w.heap.size) (hX : X.Ok) (hS : S.Small) (B : Nat) (hB : B ≤ w.heap.size) (hxa : StepAt w B L x) (hap : 0 < x.plan.length → ∀ ad, L.pp = some ad → ¬F ad.block) :
    Calls Try.prog 37 #[.pointer (some ⟨q, 0, none⟩), .agg (stepCells x L)] w fun e w' =>
      ∃ u, e = .returned u ∧ SaidAt w' w.heap.size u Said.none_ ∧ WD w' q p (X.arm x.plan) S (grow F w w') ∧ Touch F w w' := by
  have HOK := Lib.hid hX
  have HX := Lib.hid hx
  have HD := Lib.hid hd
  have HF := Lib.hid hF
  have HS := Lib.hid hS
  obtain ⟨Y, hY⟩ : ∃ Y : Wnd, Y = (X.arm x.plan) := ⟨_, rfl⟩
  have HY := Lib.hid hY
  rw [← HY.out]
  have HXA := Lib.hid hxa
  have HAP := Lib.hid hap
  obtain ⟨W, hW⟩ : ∃ W, W = ((w.alloc (.cells (stepCells x L) 69)).alloc (.cells zeroSaid 41)).alloc (.cells zeroSaid 41) := ⟨_, rfl⟩
  have HWB : Hid (Below w.heap.size w W) := Lib.hid (by rw [hW]; exact (((Below.refl _ w).alloc (Nat.le_refl _) _).alloc (by simp) _).alloc (by simp; omega) _)
  have HBW : Hid (Box W w.heap.size) := Lib.hid (by
    rw [hW]
    constructor
    · have := Blk.new ((w.alloc (.cells (stepCells x L) 69)).alloc (.cells zeroSaid 41)) 41 zeroSaid
      simpa using this
    · have := Blk.new (w.alloc (.cells (stepCells x L) 69)) 41 zeroSaid
      have := this.alloc (.cells zeroSaid 41)
      simpa using this)
  have HXW : Hid (Blk W w.heap.size 69 (stepCells x L)) := Lib.hid (by rw [hW]; exact ((Blk.new _ _ _).alloc _).alloc _)
  have HWS : Hid (W.heap.size = w.heap.size + 3) := Lib.hid (by rw [hW]; simp)
  unfold stepCells zeroSaid at hW
  rw [hk] at hW
  unfold stepCells
  rw [hk]
  have HW := Lib.hid hW
  clear hk hx hd hF hS hX hY hxa hap hW
  go_enter Try.func37, Try.ntmps37
  go_wp2_with (go_at_call 22; rw [← HW.out]; refine (warm_any q p X S F L.pp x.plan.length L.cp x.plan W (HD.out.below HWB.out) ((HXA.out.plan.below (HWB.out.mono hB)).more (Nat.le_trans hB HWB.out.size)) HAP.out HX.out.plan).mono ?_; rintro e w2 ⟨rfl, hd2, ht2⟩; rw [← HY.out] at hd2; have HBX := Lib.hid (HBW.out.touch ht2 HF.out); have HD2 := Lib.hid hd2; have HT2 := Lib.hid ht2; clear hd2 ht2; have b0 : w2.cell? ⟨w.heap.size + 1 + 1, 0, none⟩ = some (.int .i64 0) := HBX.out.s.cell 0; have b1 : w2.cell? ⟨w.heap.size + 1 + 1, 1, none⟩ = some (.slice none 0 0) := HBX.out.s.cell 1; have b2 : w2.cell? ⟨w.heap.size + 1 + 1, 2, none⟩ = some (.slice none 0 0) := HBX.out.s.cell 2; have b3 : w2.cell? ⟨w.heap.size + 1 + 1, 3, none⟩ = some (.slice none 0 0) := HBX.out.s.cell 3; have b4 : w2.cell? ⟨w.heap.size + 1 + 1, 4, none⟩ = some (.int .i64 0) := HBX.out.s.cell 4; have b5 : w2.cell? ⟨w.heap.size + 1 + 1, 5, none⟩ = some (.bool false) := HBX.out.s.cell 5; have bf : ∀ i, w2.frozen? ⟨w.heap.size + 1 + 1, i, none⟩ = false := HBX.out.s.frozen; have r0 : w2.cell? ⟨w.heap.size + 1, 0, none⟩ = some (.int .i64 0) := HBX.out.r.cell 0; have r1 : w2.cell? ⟨w.heap.size + 1, 1, none⟩ = some (.slice none 0 0) := HBX.out.r.cell 1; have r2 : w2.cell? ⟨w.heap.size + 1, 2, none⟩ = some (.slice none 0 0) := HBX.out.r.cell 2; have r3 : w2.cell? ⟨w.heap.size + 1, 3, none⟩ = some (.slice none 0 0) := HBX.out.r.cell 3; have r4 : w2.cell? ⟨w.heap.size + 1, 4, none⟩ = some (.int .i64 0) := HBX.out.r.cell 4; have r5 : w2.cell? ⟨w.heap.size + 1, 5, none⟩ = some (.bool false) := HBX.out.r.cell 5; have rf : ∀ i, w2.frozen? ⟨w.heap.size + 1, i, none⟩ = false := HBX.out.r.frozen)
  refine bodyPost_ret (v := .agg #[.int .i64 0, .slice none 0 0, .slice none 0 0, .slice none 0 0, .int .i64 0, .bool false]) (by simp only [results, Try.results37]; go_simp) rfl ?_
  refine ⟨_, rfl, Said.code_at _ _ _, frame_wd (G := fun k => k = w.heap.size + 1 ∨ k = w.heap.size + 1 + 1) HWB.out HD2.out HT2.out ?_ ?_ HF.out (fun k hk => by have := HWS.out; rcases hk with rfl | rfl <;> omega)⟩
  · exact ((((((Touch.refl _ _).set (Or.inl rfl) _).set (Or.inl rfl) _).set (Or.inl rfl) _).set (Or.inl rfl) _).set (Or.inl rfl) _).set (Or.inl rfl) _
  · simp only [size_set]
end Go.Proofs.Ytdmcjomcbhdcbaa
