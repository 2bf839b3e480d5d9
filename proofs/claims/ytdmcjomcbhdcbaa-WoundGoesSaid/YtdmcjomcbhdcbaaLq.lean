/- The law's helper 'promoted': what is the drive's alone, asked of the wound. -/
import Derived.Test.YtdmcjomcbhdcbaaLn
import Derived.Test.YtdmcjomcbhdcbaaFp
import Derived.Deep.RegionHeld3
namespace Go.Proofs.Ytdmcjomcbhdcbaa
open Go.RowKit Go.Maps

theorem wd_lift {w : World} {q p : Nat} {X : Wnd} {S T : Drv} {F : Nat → Prop} {f : Nat} {args : Array Value} {R : Ending → Prop} (h : WD w q p X S F)
    (hc : ∀ FD, Dr w p S FD → (∀ k, FD k → F k) → Calls Try.prog f args w fun e w' => R e ∧ Dr w' p T (grow FD w w') ∧ Touch FD w w') :
    Calls Try.prog f args w fun e w' => R e ∧ WD w' q p X T (grow F w w') ∧ Touch F w w' := by
  obtain ⟨FW, FD, hA, hF⟩ := h
  refine (hc FD hA.dr fun k hk => hF k (.inr hk)).mono ?_
  rintro e w' ⟨he, hd, ht⟩
  refine ⟨he, ⟨_, _, hA.drive hd ht, fun k hk => ?_⟩, ht.mono fun k _ hk => hF k (.inr hk)⟩
  rcases hk with hk | hk | hk
  · exact .inl (hF k (.inl hk))
  · exact .inl (hF k (.inr hk))
  · exact .inr hk
theorem wd_grow {w W : World} {q p : Nat} {X : Wnd} {S : Drv} {F : Nat → Prop} (h : WD w q p X S F) (hb : Below w.heap.size w W) : WD W q p X S (grow F w W) := (h.below hb).mono fun _ hk => .inl hk

set_option maxRecDepth 100000 in
set_option maxHeartbeats 1000000 in
theorem promoted_wipe (q p : Nat) (X : Wnd) (S : Drv) (F : Nat → Prop) (x : PStep) (L : SLay) (w : World) (hk : x.kind = 25) (hx : x.Fits) (hd : WD w q p X S F) (hF : ∀ k, F k → k < w.heap.size) (hS : S.Small) :
    Calls Try.prog 65 #[.pointer (some ⟨q, 0, none⟩), .agg (stepCells x L)] w fun e w' =>
      ∃ u, e = .returned u ∧ SaidAt w' w.heap.size u (.code (((Drv.new S.room, (0 : Int)) : Drv × Int)).2) ∧ WD w' q p X (((Drv.new S.room, (0 : Int)) : Drv × Int)).1 (grow F w w') ∧ Touch F w w' := by
  have HX := Lib.hid hx
  have kq : w.cell? ⟨q, 0, none⟩ = some (.pointer (some ⟨p, 0, none⟩)) := head_cell hd.wn
  have kql : q < w.heap.size := World.block_lt_of_cell? w _ kq
  have HD := Lib.hid hd
  have HF := Lib.hid hF
  have HS := Lib.hid hS
  obtain ⟨E, hE⟩ : ∃ E, E = (((Drv.new S.room, (0 : Int)) : Drv × Int)).2 := ⟨_, rfl⟩
  have HE := Lib.hid hE
  rw [← HE.out]
  obtain ⟨T, hT⟩ : ∃ T, T = (((Drv.new S.room, (0 : Int)) : Drv × Int)).1 := ⟨_, rfl⟩
  have HT := Lib.hid hT
  rw [← HT.out]
  obtain ⟨W, hW⟩ : ∃ W, W = ((w.alloc (.cells (stepCells x L) 69)).alloc (.cells zeroSaid 41)).alloc (.cells zeroSaid 41) := ⟨_, rfl⟩
  have HWB : Hid (Below w.heap.size w W) := Lib.hid (by rw [hW]; exact (((Below.refl _ w).alloc (Nat.le_refl _) _).alloc (by simp) _).alloc (by simp; omega) _)
  have HBW : Hid (Box W w.heap.size) := Lib.hid (by
    rw [hW]
    constructor
    · have := Blk.new ((w.alloc (.cells (stepCells x L) 69)).alloc (.cells zeroSaid 41)) 41 zeroSaid
      simpa using this
    · have := Blk.new (w.alloc (.cells (stepCells x L) 69)) 41 zeroSaid
      have := this.alloc (.cells zeroSaid 41)
      simpa using this)
  have HXW : Hid (Blk W w.heap.size 69 (stepCells x L)) := Lib.hid (by rw [hW]; exact ((Blk.new _ _ _).alloc _).alloc _)
  have HWS : Hid (W.heap.size = w.heap.size + 3) := Lib.hid (by rw [hW]; simp)
  unfold stepCells zeroSaid at hW
  rw [hk] at hW
  unfold stepCells
  rw [hk]
  have HW := Lib.hid hW
  have kqc : W.cell? ⟨q, 0, none⟩ = some (.pointer (some ⟨p, 0, none⟩)) := head_cell (HD.out.below HWB.out).wn
  rw [hW] at kqc
  clear hk hx hd hF hS hE hT hW
  go_enter Try.func65, Try.ntmps65
  go_wp2_with (go_at_call 69; rw [← HW.out]; refine (wd_lift (HD.out.below HWB.out) fun FD hd _ => wipe_any p S FD W hd (by have := HS.out.room; omega)).mono ?_; rintro e w2 ⟨rfl, hd2, ht2⟩; rw [← HE.out]; rw [← HT.out] at hd2; have HBX := Lib.hid (HBW.out.touch ht2 HF.out); have HD2 := Lib.hid hd2; have HT2 := Lib.hid ht2; clear hd2 ht2; have b0 : w2.cell? ⟨w.heap.size + 1 + 1, 0, none⟩ = some (.int .i64 0) := HBX.out.s.cell 0; have b1 : w2.cell? ⟨w.heap.size + 1 + 1, 1, none⟩ = some (.slice none 0 0) := HBX.out.s.cell 1; have b2 : w2.cell? ⟨w.heap.size + 1 + 1, 2, none⟩ = some (.slice none 0 0) := HBX.out.s.cell 2; have b3 : w2.cell? ⟨w.heap.size + 1 + 1, 3, none⟩ = some (.slice none 0 0) := HBX.out.s.cell 3; have b4 : w2.cell? ⟨w.heap.size + 1 + 1, 4, none⟩ = some (.int .i64 0) := HBX.out.s.cell 4; have b5 : w2.cell? ⟨w.heap.size + 1 + 1, 5, none⟩ = some (.bool false) := HBX.out.s.cell 5; have bf : ∀ i, w2.frozen? ⟨w.heap.size + 1 + 1, i, none⟩ = false := HBX.out.s.frozen; have r0 : w2.cell? ⟨w.heap.size + 1, 0, none⟩ = some (.int .i64 0) := HBX.out.r.cell 0; have r1 : w2.cell? ⟨w.heap.size + 1, 1, none⟩ = some (.slice none 0 0) := HBX.out.r.cell 1; have r2 : w2.cell? ⟨w.heap.size + 1, 2, none⟩ = some (.slice none 0 0) := HBX.out.r.cell 2; have r3 : w2.cell? ⟨w.heap.size + 1, 3, none⟩ = some (.slice none 0 0) := HBX.out.r.cell 3; have r4 : w2.cell? ⟨w.heap.size + 1, 4, none⟩ = some (.int .i64 0) := HBX.out.r.cell 4; have r5 : w2.cell? ⟨w.heap.size + 1, 5, none⟩ = some (.bool false) := HBX.out.r.cell 5; have rf : ∀ i, w2.frozen? ⟨w.heap.size + 1, i, none⟩ = false := HBX.out.r.frozen)
  refine bodyPost_ret (v := .agg #[.int .i64 E, .slice none 0 0, .slice none 0 0, .slice none 0 0, .int .i64 0, .bool false]) (by simp only [results, Try.results65]; go_simp) rfl ?_
  refine ⟨_, rfl, Said.code_at _ _ _, frame_wd (G := fun k => k = w.heap.size + 1 ∨ k = w.heap.size + 1 + 1) HWB.out HD2.out HT2.out ?_ ?_ HF.out (fun k hk => by have := HWS.out; rcases hk with rfl | rfl <;> omega)⟩
  · exact (((((((Touch.refl _ _).set (Or.inr rfl) _).set (Or.inl rfl) _).set (Or.inl rfl) _).set (Or.inl rfl) _).set (Or.inl rfl) _).set (Or.inl rfl) _).set (Or.inl rfl) _
  · simp only [size_set]

set_option maxRecDepth 100000 in
set_option maxHeartbeats 1000000 in
theorem promoted_used (q p : Nat) (X : Wnd) (S : Drv) (F : Nat → Prop) (x : PStep) (L : SLay) (w : World) (hk : x.kind = 17) (hx : x.Fits) (hd : WD w q p X S F) (hF : ∀ k, F k → k < w.heap.size) (hS : S.Small) :
    Calls Try.prog 65 #[.pointer (some ⟨q, 0, none⟩), .agg (stepCells x L)] w fun e w' =>
      ∃ u, e = .returned u ∧ SaidAt w' w.heap.size u { Said.none_ with n := S.used } ∧ WD w' q p X S (grow F w w') ∧ Touch F w w' := by
  have HX := Lib.hid hx
  have kq : w.cell? ⟨q, 0, none⟩ = some (.pointer (some ⟨p, 0, none⟩)) := head_cell hd.wn
  have kql : q < w.heap.size := World.block_lt_of_cell? w _ kq
  have HD := Lib.hid hd
  have HF := Lib.hid hF
  have HS := Lib.hid hS
  obtain ⟨V, hV⟩ : ∃ V : Int, V = S.used := ⟨_, rfl⟩
  have HV := Lib.hid hV
  rw [← HV.out]
  obtain ⟨addr, hda⟩ := HD.out.dr
  have HDA := Lib.hid hda
  obtain ⟨W, hW⟩ : ∃ W, W = ((w.alloc (.cells (stepCells x L) 69)).alloc (.cells zeroSaid 41)).alloc (.cells zeroSaid 41) := ⟨_, rfl⟩
  have HWB : Hid (Below w.heap.size w W) := Lib.hid (by rw [hW]; exact (((Below.refl _ w).alloc (Nat.le_refl _) _).alloc (by simp) _).alloc (by simp; omega) _)
  have HBW : Hid (Box W w.heap.size) := Lib.hid (by
    rw [hW]
    constructor
    · have := Blk.new ((w.alloc (.cells (stepCells x L) 69)).alloc (.cells zeroSaid 41)) 41 zeroSaid
      simpa using this
    · have := Blk.new (w.alloc (.cells (stepCells x L) 69)) 41 zeroSaid
      have := this.alloc (.cells zeroSaid 41)
      simpa using this)
  have HXW : Hid (Blk W w.heap.size 69 (stepCells x L)) := Lib.hid (by rw [hW]; exact ((Blk.new _ _ _).alloc _).alloc _)
  have HWS : Hid (W.heap.size = w.heap.size + 3) := Lib.hid (by rw [hW]; simp)
  unfold stepCells zeroSaid at hW
  rw [hk] at hW
  unfold stepCells
  rw [hk]
  have HW := Lib.hid hW
  have kqc : W.cell? ⟨q, 0, none⟩ = some (.pointer (some ⟨p, 0, none⟩)) := head_cell (HD.out.below HWB.out).wn
  rw [hW] at kqc
  clear hk hx hd hF hS hV hda hW
  go_enter Try.func65, Try.ntmps65
  go_wp2_with (go_at_call 34; rw [← HW.out]; refine (used_any p S addr F W (HDA.out.keep (Touch.of_below (F := fun _ => False) HWB.out) fun _ _ h => h)).mono ?_; rintro e w2 ⟨rfl, hw2⟩; rw [← HV.out]; have HB : Hid (Below W.heap.size W w2) := Lib.hid (hw2 ▸ Below.refl _ _); have HBX := Lib.hid (HBW.out.below HB.out); clear hw2; have b0 : w2.cell? ⟨w.heap.size + 1 + 1, 0, none⟩ = some (.int .i64 0) := HBX.out.s.cell 0; have b1 : w2.cell? ⟨w.heap.size + 1 + 1, 1, none⟩ = some (.slice none 0 0) := HBX.out.s.cell 1; have b2 : w2.cell? ⟨w.heap.size + 1 + 1, 2, none⟩ = some (.slice none 0 0) := HBX.out.s.cell 2; have b3 : w2.cell? ⟨w.heap.size + 1 + 1, 3, none⟩ = some (.slice none 0 0) := HBX.out.s.cell 3; have b4 : w2.cell? ⟨w.heap.size + 1 + 1, 4, none⟩ = some (.int .i64 0) := HBX.out.s.cell 4; have b5 : w2.cell? ⟨w.heap.size + 1 + 1, 5, none⟩ = some (.bool false) := HBX.out.s.cell 5; have bf : ∀ i, w2.frozen? ⟨w.heap.size + 1 + 1, i, none⟩ = false := HBX.out.s.frozen; have r0 : w2.cell? ⟨w.heap.size + 1, 0, none⟩ = some (.int .i64 0) := HBX.out.r.cell 0; have r1 : w2.cell? ⟨w.heap.size + 1, 1, none⟩ = some (.slice none 0 0) := HBX.out.r.cell 1; have r2 : w2.cell? ⟨w.heap.size + 1, 2, none⟩ = some (.slice none 0 0) := HBX.out.r.cell 2; have r3 : w2.cell? ⟨w.heap.size + 1, 3, none⟩ = some (.slice none 0 0) := HBX.out.r.cell 3; have r4 : w2.cell? ⟨w.heap.size + 1, 4, none⟩ = some (.int .i64 0) := HBX.out.r.cell 4; have r5 : w2.cell? ⟨w.heap.size + 1, 5, none⟩ = some (.bool false) := HBX.out.r.cell 5; have rf : ∀ i, w2.frozen? ⟨w.heap.size + 1, i, none⟩ = false := HBX.out.r.frozen)
  refine bodyPost_ret (v := .agg #[.int .i64 0, .slice none 0 0, .slice none 0 0, .slice none 0 0, .int .i64 V, .bool false]) (by simp only [results, Try.results65]; go_simp) rfl ?_
  have GB : ∀ k, (k = w.heap.size + 1 ∨ k = w.heap.size + 1 + 1) → k < W.heap.size := fun k hk => by have := HWS.out; rcases hk with rfl | rfl <;> omega
  exact ⟨_, rfl, ⟨_, _, _, rfl, World.ownsRow_nil _ _ _ _, World.ownsRow_nil _ _ _ _, FilesAt.nil _ _⟩, frame_wd (G := fun k => k = w.heap.size + 1 ∨ k = w.heap.size + 1 + 1) HWB.out (wd_grow (HD.out.below HWB.out) HB.out |>.mono fun k h => h) (Touch.of_below HB.out) (by exact (((((((Touch.refl _ _).set (Or.inr rfl) _).set (Or.inl rfl) _).set (Or.inl rfl) _).set (Or.inl rfl) _).set (Or.inl rfl) _).set (Or.inl rfl) _).set (Or.inl rfl) _) (by simp only [size_set]) HF.out (fun k hk => by have := HWS.out; rcases hk with rfl | rfl <;> omega)⟩

set_option maxRecDepth 100000 in
set_option maxHeartbeats 1000000 in
theorem promoted_pending (q p : Nat) (X : Wnd) (S : Drv) (F : Nat → Prop) (x : PStep) (L : SLay) (w : World) (hk : x.kind = 18) (hx : x.Fits) (hd : WD w q p X S F) (hF : ∀ k, F k → k < w.heap.size) (hS : S.Small) :
    Calls Try.prog 65 #[.pointer (some ⟨q, 0, none⟩), .agg (stepCells x L)] w fun e w' =>
      ∃ u, e = .returned u ∧ SaidAt w' w.heap.size u { Said.none_ with n := (S.pending.length : Int) } ∧ WD w' q p X S (grow F w w') ∧ Touch F w w' := by
  have HX := Lib.hid hx
  have kq : w.cell? ⟨q, 0, none⟩ = some (.pointer (some ⟨p, 0, none⟩)) := head_cell hd.wn
  have kql : q < w.heap.size := World.block_lt_of_cell? w _ kq
  have HD := Lib.hid hd
  have HF := Lib.hid hF
  have HS := Lib.hid hS
  obtain ⟨V, hV⟩ : ∃ V : Int, V = (S.pending.length : Int) := ⟨_, rfl⟩
  have HV := Lib.hid hV
  rw [← HV.out]
  obtain ⟨addr, hda⟩ := HD.out.dr
  have HDA := Lib.hid hda
  obtain ⟨W, hW⟩ : ∃ W, W = ((w.alloc (.cells (stepCells x L) 69)).alloc (.cells zeroSaid 41)).alloc (.cells zeroSaid 41) := ⟨_, rfl⟩
  have HWB : Hid (Below w.heap.size w W) := Lib.hid (by rw [hW]; exact (((Below.refl _ w).alloc (Nat.le_refl _) _).alloc (by simp) _).alloc (by simp; omega) _)
  have HBW : Hid (Box W w.heap.size) := Lib.hid (by
    rw [hW]
    constructor
    · have := Blk.new ((w.alloc (.cells (stepCells x L) 69)).alloc (.cells zeroSaid 41)) 41 zeroSaid
      simpa using this
    · have := Blk.new (w.alloc (.cells (stepCells x L) 69)) 41 zeroSaid
      have := this.alloc (.cells zeroSaid 41)
      simpa using this)
  have HXW : Hid (Blk W w.heap.size 69 (stepCells x L)) := Lib.hid (by rw [hW]; exact ((Blk.new _ _ _).alloc _).alloc _)
  have HWS : Hid (W.heap.size = w.heap.size + 3) := Lib.hid (by rw [hW]; simp)
  unfold stepCells zeroSaid at hW
  rw [hk] at hW
  unfold stepCells
  rw [hk]
  have HW := Lib.hid hW
  have kqc : W.cell? ⟨q, 0, none⟩ = some (.pointer (some ⟨p, 0, none⟩)) := head_cell (HD.out.below HWB.out).wn
  rw [hW] at kqc
  clear hk hx hd hF hS hV hda hW
  go_enter Try.func65, Try.ntmps65
  go_wp2_with (go_at_call 48; rw [← HW.out]; refine (pending_any p S addr F W (HDA.out.keep (Touch.of_below (F := fun _ => False) HWB.out) fun _ _ h => h)).mono ?_; rintro e w2 ⟨rfl, hw2⟩; rw [← HV.out]; have HB : Hid (Below W.heap.size W w2) := Lib.hid (hw2 ▸ Below.refl _ _); have HBX := Lib.hid (HBW.out.below HB.out); clear hw2; have b0 : w2.cell? ⟨w.heap.size + 1 + 1, 0, none⟩ = some (.int .i64 0) := HBX.out.s.cell 0; have b1 : w2.cell? ⟨w.heap.size + 1 + 1, 1, none⟩ = some (.slice none 0 0) := HBX.out.s.cell 1; have b2 : w2.cell? ⟨w.heap.size + 1 + 1, 2, none⟩ = some (.slice none 0 0) := HBX.out.s.cell 2; have b3 : w2.cell? ⟨w.heap.size + 1 + 1, 3, none⟩ = some (.slice none 0 0) := HBX.out.s.cell 3; have b4 : w2.cell? ⟨w.heap.size + 1 + 1, 4, none⟩ = some (.int .i64 0) := HBX.out.s.cell 4; have b5 : w2.cell? ⟨w.heap.size + 1 + 1, 5, none⟩ = some (.bool false) := HBX.out.s.cell 5; have bf : ∀ i, w2.frozen? ⟨w.heap.size + 1 + 1, i, none⟩ = false := HBX.out.s.frozen; have r0 : w2.cell? ⟨w.heap.size + 1, 0, none⟩ = some (.int .i64 0) := HBX.out.r.cell 0; have r1 : w2.cell? ⟨w.heap.size + 1, 1, none⟩ = some (.slice none 0 0) := HBX.out.r.cell 1; have r2 : w2.cell? ⟨w.heap.size + 1, 2, none⟩ = some (.slice none 0 0) := HBX.out.r.cell 2; have r3 : w2.cell? ⟨w.heap.size + 1, 3, none⟩ = some (.slice none 0 0) := HBX.out.r.cell 3; have r4 : w2.cell? ⟨w.heap.size + 1, 4, none⟩ = some (.int .i64 0) := HBX.out.r.cell 4; have r5 : w2.cell? ⟨w.heap.size + 1, 5, none⟩ = some (.bool false) := HBX.out.r.cell 5; have rf : ∀ i, w2.frozen? ⟨w.heap.size + 1, i, none⟩ = false := HBX.out.r.frozen)
  refine bodyPost_ret (v := .agg #[.int .i64 0, .slice none 0 0, .slice none 0 0, .slice none 0 0, .int .i64 V, .bool false]) (by simp only [results, Try.results65]; go_simp) rfl ?_
  have GB : ∀ k, (k = w.heap.size + 1 ∨ k = w.heap.size + 1 + 1) → k < W.heap.size := fun k hk => by have := HWS.out; rcases hk with rfl | rfl <;> omega
  exact ⟨_, rfl, ⟨_, _, _, rfl, World.ownsRow_nil _ _ _ _, World.ownsRow_nil _ _ _ _, FilesAt.nil _ _⟩, frame_wd (G := fun k => k = w.heap.size + 1 ∨ k = w.heap.size + 1 + 1) HWB.out (wd_grow (HD.out.below HWB.out) HB.out |>.mono fun k h => h) (Touch.of_below HB.out) (by exact (((((((Touch.refl _ _).set (Or.inr rfl) _).set (Or.inl rfl) _).set (Or.inl rfl) _).set (Or.inl rfl) _).set (Or.inl rfl) _).set (Or.inl rfl) _).set (Or.inl rfl) _) (by simp only [size_set]) HF.out (fun k hk => by have := HWS.out; rcases hk with rfl | rfl <;> omega)⟩

set_option maxRecDepth 100000 in
set_option maxHeartbeats 1000000 in
theorem promoted_image (q p : Nat) (X : Wnd) (S : Drv) (F : Nat → Prop) (x : PStep) (L : SLay) (w : World) (hk : x.kind = 21) (hx : x.Fits) (hd : WD w q p X S F) (hF : ∀ k, F k → k < w.heap.size) (hS : S.Small) (N : Nat) (hI : S.Inv N) :
    Calls Try.prog 65 #[.pointer (some ⟨q, 0, none⟩), .agg (stepCells x L)] w fun e w' =>
      ∃ u, e = .returned u ∧ SaidAt w' w.heap.size u { Said.none_ with files := S.image } ∧ WD w' q p X S (grow F w w') ∧ Touch F w w' := by
  have HX := Lib.hid hx
  have kq : w.cell? ⟨q, 0, none⟩ = some (.pointer (some ⟨p, 0, none⟩)) := head_cell hd.wn
  have kql : q < w.heap.size := World.block_lt_of_cell? w _ kq
  have HD := Lib.hid hd
  have HF := Lib.hid hF
  have HS := Lib.hid hS
  obtain ⟨fs, hfs⟩ : ∃ fs, fs = S.image := ⟨_, rfl⟩
  have HFS := Lib.hid hfs
  rw [← HFS.out]
  obtain ⟨m, hm⟩ : ∃ m, m = fs.length := ⟨_, rfl⟩
  have HM := Lib.hid hm
  obtain ⟨addr, hda⟩ := HD.out.dr
  have HDA := Lib.hid hda
  have HI := Lib.hid hI
  obtain ⟨W, hW⟩ : ∃ W, W = ((w.alloc (.cells (stepCells x L) 69)).alloc (.cells zeroSaid 41)).alloc (.cells zeroSaid 41) := ⟨_, rfl⟩
  have HWB : Hid (Below w.heap.size w W) := Lib.hid (by rw [hW]; exact (((Below.refl _ w).alloc (Nat.le_refl _) _).alloc (by simp) _).alloc (by simp; omega) _)
  have HBW : Hid (Box W w.heap.size) := Lib.hid (by
    rw [hW]
    constructor
    · have := Blk.new ((w.alloc (.cells (stepCells x L) 69)).alloc (.cells zeroSaid 41)) 41 zeroSaid
      simpa using this
    · have := Blk.new (w.alloc (.cells (stepCells x L) 69)) 41 zeroSaid
      have := this.alloc (.cells zeroSaid 41)
      simpa using this)
  have HXW : Hid (Blk W w.heap.size 69 (stepCells x L)) := Lib.hid (by rw [hW]; exact ((Blk.new _ _ _).alloc _).alloc _)
  have HWS : Hid (W.heap.size = w.heap.size + 3) := Lib.hid (by rw [hW]; simp)
  unfold stepCells zeroSaid at hW
  rw [hk] at hW
  unfold stepCells
  rw [hk]
  have HW := Lib.hid hW
  have kqc : W.cell? ⟨q, 0, none⟩ = some (.pointer (some ⟨p, 0, none⟩)) := head_cell (HD.out.below HWB.out).wn
  rw [hW] at kqc
  clear hk hx hd hF hS hfs hm hda hI hW
  go_enter Try.func65, Try.ntmps65
  go_wp2_with (go_at_call 46; rw [← HW.out]; refine (image_any p S addr F W (HDA.out.keep (Touch.of_below (F := fun _ => False) HWB.out) fun _ _ h => h) HS.out HI.out.fnow).mono ?_; rintro e w2 ⟨v, rfl, ho, hb⟩; rw [← HFS.out] at ho; obtain ⟨a, c, rfl, _⟩ := ho.shape; rw [← HM.out]; have HO : Hid (FilesAt w2 W.heap.size (.slice a m c) fs) := Lib.hid (by rw [HM.out]; exact ho); have HB := Lib.hid hb; have HBX := Lib.hid (HBW.out.below hb); clear ho hb; have b0 : w2.cell? ⟨w.heap.size + 1 + 1, 0, none⟩ = some (.int .i64 0) := HBX.out.s.cell 0; have b1 : w2.cell? ⟨w.heap.size + 1 + 1, 1, none⟩ = some (.slice none 0 0) := HBX.out.s.cell 1; have b2 : w2.cell? ⟨w.heap.size + 1 + 1, 2, none⟩ = some (.slice none 0 0) := HBX.out.s.cell 2; have b3 : w2.cell? ⟨w.heap.size + 1 + 1, 3, none⟩ = some (.slice none 0 0) := HBX.out.s.cell 3; have b4 : w2.cell? ⟨w.heap.size + 1 + 1, 4, none⟩ = some (.int .i64 0) := HBX.out.s.cell 4; have b5 : w2.cell? ⟨w.heap.size + 1 + 1, 5, none⟩ = some (.bool false) := HBX.out.s.cell 5; have bf : ∀ i, w2.frozen? ⟨w.heap.size + 1 + 1, i, none⟩ = false := HBX.out.s.frozen; have r0 : w2.cell? ⟨w.heap.size + 1, 0, none⟩ = some (.int .i64 0) := HBX.out.r.cell 0; have r1 : w2.cell? ⟨w.heap.size + 1, 1, none⟩ = some (.slice none 0 0) := HBX.out.r.cell 1; have r2 : w2.cell? ⟨w.heap.size + 1, 2, none⟩ = some (.slice none 0 0) := HBX.out.r.cell 2; have r3 : w2.cell? ⟨w.heap.size + 1, 3, none⟩ = some (.slice none 0 0) := HBX.out.r.cell 3; have r4 : w2.cell? ⟨w.heap.size + 1, 4, none⟩ = some (.int .i64 0) := HBX.out.r.cell 4; have r5 : w2.cell? ⟨w.heap.size + 1, 5, none⟩ = some (.bool false) := HBX.out.r.cell 5; have rf : ∀ i, w2.frozen? ⟨w.heap.size + 1, i, none⟩ = false := HBX.out.r.frozen)
  refine bodyPost_ret (v := .agg #[.int .i64 0, .slice none 0 0, .slice none 0 0, .slice a m c, .int .i64 0, .bool false]) (by simp only [results, Try.results65]; go_simp) rfl ?_
  have GB : ∀ k, (k = w.heap.size + 1 ∨ k = w.heap.size + 1 + 1) → k < W.heap.size := fun k hk => by have := HWS.out; rcases hk with rfl | rfl <;> omega
  exact ⟨_, rfl, ⟨_, _, _, rfl, World.ownsRow_nil _ _ _ _, World.ownsRow_nil _ _ _ _, FilesAt.base (FilesAt.touch (G := fun k => k = w.heap.size + 1 ∨ k = w.heap.size + 1 + 1) HO.out (by exact (((((((Touch.refl _ _).set (Or.inr rfl) _).set (Or.inl rfl) _).set (Or.inl rfl) _).set (Or.inl rfl) _).set (Or.inl rfl) _).set (Or.inl rfl) _).set (Or.inl rfl) _) GB) HWB.out.size⟩, frame_wd (G := fun k => k = w.heap.size + 1 ∨ k = w.heap.size + 1 + 1) HWB.out (wd_grow (HD.out.below HWB.out) HB.out |>.mono fun k h => h) (Touch.of_below HB.out) (by exact (((((((Touch.refl _ _).set (Or.inr rfl) _).set (Or.inl rfl) _).set (Or.inl rfl) _).set (Or.inl rfl) _).set (Or.inl rfl) _).set (Or.inl rfl) _).set (Or.inl rfl) _) (by simp only [size_set]) HF.out (fun k hk => by have := HWS.out; rcases hk with rfl | rfl <;> omega)⟩

set_option maxRecDepth 100000 in
set_option maxHeartbeats 1000000 in
theorem promoted_safe (q p : Nat) (X : Wnd) (S : Drv) (F : Nat → Prop) (x : PStep) (L : SLay) (w : World) (hk : x.kind = 22) (hx : x.Fits) (hd : WD w q p X S F) (hF : ∀ k, F k → k < w.heap.size) (hS : S.Small) (N : Nat) (hI : S.Inv N) :
    Calls Try.prog 65 #[.pointer (some ⟨q, 0, none⟩), .agg (stepCells x L)] w fun e w' =>
      ∃ u, e = .returned u ∧ SaidAt w' w.heap.size u { Said.none_ with files := S.safes } ∧ WD w' q p X S (grow F w w') ∧ Touch F w w' := by
  have HX := Lib.hid hx
  have kq : w.cell? ⟨q, 0, none⟩ = some (.pointer (some ⟨p, 0, none⟩)) := head_cell hd.wn
  have kql : q < w.heap.size := World.block_lt_of_cell? w _ kq
  have HD := Lib.hid hd
  have HF := Lib.hid hF
  have HS := Lib.hid hS
  obtain ⟨fs, hfs⟩ : ∃ fs, fs = S.safes := ⟨_, rfl⟩
  have HFS := Lib.hid hfs
  rw [← HFS.out]
  obtain ⟨m, hm⟩ : ∃ m, m = fs.length := ⟨_, rfl⟩
  have HM := Lib.hid hm
  obtain ⟨addr, hda⟩ := HD.out.dr
  have HDA := Lib.hid hda
  have HI := Lib.hid hI
  obtain ⟨W, hW⟩ : ∃ W, W = ((w.alloc (.cells (stepCells x L) 69)).alloc (.cells zeroSaid 41)).alloc (.cells zeroSaid 41) := ⟨_, rfl⟩
  have HWB : Hid (Below w.heap.size w W) := Lib.hid (by rw [hW]; exact (((Below.refl _ w).alloc (Nat.le_refl _) _).alloc (by simp) _).alloc (by simp; omega) _)
  have HBW : Hid (Box W w.heap.size) := Lib.hid (by
    rw [hW]
    constructor
    · have := Blk.new ((w.alloc (.cells (stepCells x L) 69)).alloc (.cells zeroSaid 41)) 41 zeroSaid
      simpa using this
    · have := Blk.new (w.alloc (.cells (stepCells x L) 69)) 41 zeroSaid
      have := this.alloc (.cells zeroSaid 41)
      simpa using this)
  have HXW : Hid (Blk W w.heap.size 69 (stepCells x L)) := Lib.hid (by rw [hW]; exact ((Blk.new _ _ _).alloc _).alloc _)
  have HWS : Hid (W.heap.size = w.heap.size + 3) := Lib.hid (by rw [hW]; simp)
  unfold stepCells zeroSaid at hW
  rw [hk] at hW
  unfold stepCells
  rw [hk]
  have HW := Lib.hid hW
  have kqc : W.cell? ⟨q, 0, none⟩ = some (.pointer (some ⟨p, 0, none⟩)) := head_cell (HD.out.below HWB.out).wn
  rw [hW] at kqc
  clear hk hx hd hF hS hfs hm hda hI hW
  go_enter Try.func65, Try.ntmps65
  go_wp2_with (go_at_call 47; rw [← HW.out]; refine (safe_any p S addr F W (HDA.out.keep (Touch.of_below (F := fun _ => False) HWB.out) fun _ _ h => h) HS.out HI.out.fkept HI.out.safe).mono ?_; rintro e w2 ⟨v, rfl, ho, hb⟩; rw [← HFS.out] at ho; obtain ⟨a, c, rfl, _⟩ := ho.shape; rw [← HM.out]; have HO : Hid (FilesAt w2 W.heap.size (.slice a m c) fs) := Lib.hid (by rw [HM.out]; exact ho); have HB := Lib.hid hb; have HBX := Lib.hid (HBW.out.below hb); clear ho hb; have b0 : w2.cell? ⟨w.heap.size + 1 + 1, 0, none⟩ = some (.int .i64 0) := HBX.out.s.cell 0; have b1 : w2.cell? ⟨w.heap.size + 1 + 1, 1, none⟩ = some (.slice none 0 0) := HBX.out.s.cell 1; have b2 : w2.cell? ⟨w.heap.size + 1 + 1, 2, none⟩ = some (.slice none 0 0) := HBX.out.s.cell 2; have b3 : w2.cell? ⟨w.heap.size + 1 + 1, 3, none⟩ = some (.slice none 0 0) := HBX.out.s.cell 3; have b4 : w2.cell? ⟨w.heap.size + 1 + 1, 4, none⟩ = some (.int .i64 0) := HBX.out.s.cell 4; have b5 : w2.cell? ⟨w.heap.size + 1 + 1, 5, none⟩ = some (.bool false) := HBX.out.s.cell 5; have bf : ∀ i, w2.frozen? ⟨w.heap.size + 1 + 1, i, none⟩ = false := HBX.out.s.frozen; have r0 : w2.cell? ⟨w.heap.size + 1, 0, none⟩ = some (.int .i64 0) := HBX.out.r.cell 0; have r1 : w2.cell? ⟨w.heap.size + 1, 1, none⟩ = some (.slice none 0 0) := HBX.out.r.cell 1; have r2 : w2.cell? ⟨w.heap.size + 1, 2, none⟩ = some (.slice none 0 0) := HBX.out.r.cell 2; have r3 : w2.cell? ⟨w.heap.size + 1, 3, none⟩ = some (.slice none 0 0) := HBX.out.r.cell 3; have r4 : w2.cell? ⟨w.heap.size + 1, 4, none⟩ = some (.int .i64 0) := HBX.out.r.cell 4; have r5 : w2.cell? ⟨w.heap.size + 1, 5, none⟩ = some (.bool false) := HBX.out.r.cell 5; have rf : ∀ i, w2.frozen? ⟨w.heap.size + 1, i, none⟩ = false := HBX.out.r.frozen)
  refine bodyPost_ret (v := .agg #[.int .i64 0, .slice none 0 0, .slice none 0 0, .slice a m c, .int .i64 0, .bool false]) (by simp only [results, Try.results65]; go_simp) rfl ?_
  have GB : ∀ k, (k = w.heap.size + 1 ∨ k = w.heap.size + 1 + 1) → k < W.heap.size := fun k hk => by have := HWS.out; rcases hk with rfl | rfl <;> omega
  exact ⟨_, rfl, ⟨_, _, _, rfl, World.ownsRow_nil _ _ _ _, World.ownsRow_nil _ _ _ _, FilesAt.base (FilesAt.touch (G := fun k => k = w.heap.size + 1 ∨ k = w.heap.size + 1 + 1) HO.out (by exact (((((((Touch.refl _ _).set (Or.inr rfl) _).set (Or.inl rfl) _).set (Or.inl rfl) _).set (Or.inl rfl) _).set (Or.inl rfl) _).set (Or.inl rfl) _).set (Or.inl rfl) _) GB) HWB.out.size⟩, frame_wd (G := fun k => k = w.heap.size + 1 ∨ k = w.heap.size + 1 + 1) HWB.out (wd_grow (HD.out.below HWB.out) HB.out |>.mono fun k h => h) (Touch.of_below HB.out) (by exact (((((((Touch.refl _ _).set (Or.inr rfl) _).set (Or.inl rfl) _).set (Or.inl rfl) _).set (Or.inl rfl) _).set (Or.inl rfl) _).set (Or.inl rfl) _).set (Or.inl rfl) _) (by simp only [size_set]) HF.out (fun k hk => by have := HWS.out; rcases hk with rfl | rfl <;> omega)⟩

set_option maxRecDepth 100000 in
set_option maxHeartbeats 1000000 in
theorem promoted_flip (q p : Nat) (X : Wnd) (S : Drv) (F : Nat → Prop) (x : PStep) (L : SLay) (w : World) (hk : x.kind = 23) (hx : x.Fits) (hd : WD w q p X S F) (hF : ∀ k, F k → k < w.heap.size) (hS : S.Small) (B : Nat) (hB : B ≤ w.heap.size) (hxa : StepAt w B L x) :
    Calls Try.prog 65 #[.pointer (some ⟨q, 0, none⟩), .agg (stepCells x L)] w fun e w' =>
      ∃ u, e = .returned u ∧ SaidAt w' w.heap.size u (.code (S.flip x.nm x.a x.data).2) ∧ WD w' q p X (S.flip x.nm x.a x.data).1 (grow F w w') ∧ Touch F w w' := by
  have HX := Lib.hid hx
  have kq : w.cell? ⟨q, 0, none⟩ = some (.pointer (some ⟨p, 0, none⟩)) := head_cell hd.wn
  have kql : q < w.heap.size := World.block_lt_of_cell? w _ kq
  have HD := Lib.hid hd
  have HF := Lib.hid hF
  have HS := Lib.hid hS
  obtain ⟨E, hE⟩ : ∃ E, E = (S.flip x.nm x.a x.data).2 := ⟨_, rfl⟩
  have HE := Lib.hid hE
  rw [← HE.out]
  obtain ⟨T, hT⟩ : ∃ T, T = (S.flip x.nm x.a x.data).1 := ⟨_, rfl⟩
  have HT := Lib.hid hT
  rw [← HT.out]
  have HXA := Lib.hid hxa
  obtain ⟨m, hm⟩ : ∃ m, m = x.data.length := ⟨_, rfl⟩
  have HM := Lib.hid hm
  obtain ⟨W, hW⟩ : ∃ W, W = ((w.alloc (.cells (stepCells x L) 69)).alloc (.cells zeroSaid 41)).alloc (.cells zeroSaid 41) := ⟨_, rfl⟩
  have HWB : Hid (Below w.heap.size w W) := Lib.hid (by rw [hW]; exact (((Below.refl _ w).alloc (Nat.le_refl _) _).alloc (by simp) _).alloc (by simp; omega) _)
  have HBW : Hid (Box W w.heap.size) := Lib.hid (by
    rw [hW]
    constructor
    · have := Blk.new ((w.alloc (.cells (stepCells x L) 69)).alloc (.cells zeroSaid 41)) 41 zeroSaid
      simpa using this
    · have := Blk.new (w.alloc (.cells (stepCells x L) 69)) 41 zeroSaid
      have := this.alloc (.cells zeroSaid 41)
      simpa using this)
  have HXW : Hid (Blk W w.heap.size 69 (stepCells x L)) := Lib.hid (by rw [hW]; exact ((Blk.new _ _ _).alloc _).alloc _)
  have HWS : Hid (W.heap.size = w.heap.size + 3) := Lib.hid (by rw [hW]; simp)
  unfold stepCells zeroSaid at hW
  rw [hk] at hW
  unfold stepCells
  rw [hk]
  have HW := Lib.hid hW
  have kqc : W.cell? ⟨q, 0, none⟩ = some (.pointer (some ⟨p, 0, none⟩)) := head_cell (HD.out.below HWB.out).wn
  rw [hW] at kqc
  rw [← HM.out] at HW kqc
  rw [← HM.out]
  clear hk hx hd hF hS hE hT hm hxa hW
  go_enter Try.func65, Try.ntmps65
  go_wp2_with fail
  go_region_held3 (fun w' => w'.cell? ⟨q, 0, none⟩ = some (.pointer (some ⟨p, 0, none⟩)) ∧ w'.cell? ⟨w.heap.size, 1, none⟩ = some (.string x.name) ∧ w'.cell? ⟨w.heap.size, 3, none⟩ = some (.slice L.pd m L.cd) ∧ w'.cell? ⟨w.heap.size, 4, none⟩ = some (.int .i64 x.a)) (first | go_keep | (go_split_ands; refine ⟨?_, ?_, ?_, ?_⟩ <;> (rw [World.cell?_setCell_other _ _ _ _ (by first | simp | (simp; omega))]; assumption)))
    (first
      | (go_at_call 18; rw [← HW.out]; refine (twin_any L.pd m L.cd x.data W.drew B (by rw [HM.out]; exact (HXA.out.data.below (HWB.out.mono hB)).drew) (by rw [HM.out]; exact HX.out.data)).mono ?_; rintro e w1 ⟨v, rfl, ho, hb⟩; have hb' : Below W.heap.size W w1 := below_of_drew hb; obtain ⟨a1, c1, rfl, hmc⟩ := own_shape ho; have kq' : w1.cell? ⟨q, 0, none⟩ = some (.pointer (some ⟨p, 0, none⟩)) := head_cell ((HD.out.below HWB.out).below hb').wn; have k1 : w1.cell? ⟨w.heap.size, 1, none⟩ = some (.string x.name) := (hb'.cell HXW.out.lt).trans (HXW.out.cell 1); have k3 : w1.cell? ⟨w.heap.size, 3, none⟩ = some (.slice L.pd m L.cd) := (by rw [HM.out]; exact (hb'.cell HXW.out.lt).trans (HXW.out.cell 3)); have k4 : w1.cell? ⟨w.heap.size, 4, none⟩ = some (.int .i64 x.a) := (hb'.cell HXW.out.lt).trans (HXW.out.cell 4); have HBX1 := Lib.hid (HBW.out.below hb'); have HO1 : Hid (w1.ownsRow W.heap.size 5 1 (.slice a1 m c1) m (x.data.map B8)) := Lib.hid ho; have HB1 := Lib.hid hb'; have HMC := Lib.hid hmc; clear ho hb hb' hmc)
      | (go_at_call 67; rw [HM.out]; refine (wd_lift ((HD.out.below HWB.out).below HB1.out) fun FD hd hFD => flip_any p S FD x.name x.a a1 c1 x.data w1 HX.out.name hd HS.out (by rw [← HM.out]; exact Reads.of_own HO1.out) (fun ad e hf => (by subst e; have h1 := (HO1.out.lt _ rfl).1; have h2 := HF.out _ (hFD _ hf); have h3 := HWS.out; omega)) (by rw [← HM.out]; exact HMC.out) HX.out.data).mono ?_; rintro e w2 ⟨rfl, hd2, ht2⟩; rw [show (S.flip x.name.data.toList x.a x.data).2 = E from HE.out.symm]; rw [show (S.flip x.name.data.toList x.a x.data).1 = T from HT.out.symm] at hd2; have HBX := Lib.hid (HBX1.out.touch ht2 HF.out); have HD2 := Lib.hid hd2; have HT2 := Lib.hid ht2; have kq' : w2.cell? ⟨q, 0, none⟩ = some (.pointer (some ⟨p, 0, none⟩)) := head_cell (HD2.out).wn; have k1 : w2.cell? ⟨w.heap.size, 1, none⟩ = some (.string x.name) := (World.cell?_of_block (ht2.block _ (Nat.lt_of_lt_of_le HXW.out.lt HB1.out.size) (fun hf => absurd (HF.out _ hf) (Nat.lt_irrefl _)))).trans k1; have k3 : w2.cell? ⟨w.heap.size, 3, none⟩ = some (.slice L.pd m L.cd) := (World.cell?_of_block (ht2.block _ (Nat.lt_of_lt_of_le HXW.out.lt HB1.out.size) (fun hf => absurd (HF.out _ hf) (Nat.lt_irrefl _)))).trans k3; have k4 : w2.cell? ⟨w.heap.size, 4, none⟩ = some (.int .i64 x.a) := (World.cell?_of_block (ht2.block _ (Nat.lt_of_lt_of_le HXW.out.lt HB1.out.size) (fun hf => absurd (HF.out _ hf) (Nat.lt_irrefl _)))).trans k4; clear hd2 ht2; have b0 : w2.cell? ⟨w.heap.size + 1 + 1, 0, none⟩ = some (.int .i64 0) := HBX.out.s.cell 0; have b1 : w2.cell? ⟨w.heap.size + 1 + 1, 1, none⟩ = some (.slice none 0 0) := HBX.out.s.cell 1; have b2 : w2.cell? ⟨w.heap.size + 1 + 1, 2, none⟩ = some (.slice none 0 0) := HBX.out.s.cell 2; have b3 : w2.cell? ⟨w.heap.size + 1 + 1, 3, none⟩ = some (.slice none 0 0) := HBX.out.s.cell 3; have b4 : w2.cell? ⟨w.heap.size + 1 + 1, 4, none⟩ = some (.int .i64 0) := HBX.out.s.cell 4; have b5 : w2.cell? ⟨w.heap.size + 1 + 1, 5, none⟩ = some (.bool false) := HBX.out.s.cell 5; have bf : ∀ i, w2.frozen? ⟨w.heap.size + 1 + 1, i, none⟩ = false := HBX.out.s.frozen; have r0 : w2.cell? ⟨w.heap.size + 1, 0, none⟩ = some (.int .i64 0) := HBX.out.r.cell 0; have r1 : w2.cell? ⟨w.heap.size + 1, 1, none⟩ = some (.slice none 0 0) := HBX.out.r.cell 1; have r2 : w2.cell? ⟨w.heap.size + 1, 2, none⟩ = some (.slice none 0 0) := HBX.out.r.cell 2; have r3 : w2.cell? ⟨w.heap.size + 1, 3, none⟩ = some (.slice none 0 0) := HBX.out.r.cell 3; have r4 : w2.cell? ⟨w.heap.size + 1, 4, none⟩ = some (.int .i64 0) := HBX.out.r.cell 4; have r5 : w2.cell? ⟨w.heap.size + 1, 5, none⟩ = some (.bool false) := HBX.out.r.cell 5; have rf : ∀ i, w2.frozen? ⟨w.heap.size + 1, i, none⟩ = false := HBX.out.r.frozen))
  go_wp2
  refine bodyPost_ret (v := .agg #[.int .i64 E, .slice none 0 0, .slice none 0 0, .slice none 0 0, .int .i64 0, .bool false]) (by simp only [results, Try.results65]; go_simp) rfl ?_
  refine ⟨_, rfl, Said.code_at _ _ _, frame_wd (G := fun k => k = w.heap.size + 1 ∨ k = w.heap.size + 1 + 1) (HWB.out.trans (HB1.out.mono HWB.out.size)) HD2.out HT2.out ?_ ?_ HF.out (fun k hk => by have := HWS.out; have := HB1.out.size; rcases hk with rfl | rfl <;> omega)⟩
  · exact (((((((Touch.refl _ _).set (Or.inr rfl) _).set (Or.inl rfl) _).set (Or.inl rfl) _).set (Or.inl rfl) _).set (Or.inl rfl) _).set (Or.inl rfl) _).set (Or.inl rfl) _
  · simp only [size_set]

set_option maxRecDepth 100000 in
set_option maxHeartbeats 1000000 in
theorem promoted_crash (q p : Nat) (X : Wnd) (S : Drv) (F : Nat → Prop) (x : PStep) (L : SLay) (w : World) (hk : x.kind = 20) (hx : x.Fits) (hd : WD w q p X S F) (hF : ∀ k, F k → k < w.heap.size) (hS : S.Small) (B : Nat) (hB : B ≤ w.heap.size) (hxa : StepAt w B L x) (N : Nat) (hI : S.Inv N) (hN : N ≤ 2199023254000) :
    Calls Try.prog 65 #[.pointer (some ⟨q, 0, none⟩), .agg (stepCells x L)] w fun e w' =>
      ∃ u, e = .returned u ∧ SaidAt w' w.heap.size u (.code 0) ∧ WD w' q p X (S.crash x.dirs x.cuts) (grow F w w') ∧ Touch F w w' := by
  have HX := Lib.hid hx
  have kq : w.cell? ⟨q, 0, none⟩ = some (.pointer (some ⟨p, 0, none⟩)) := head_cell hd.wn
  have kql : q < w.heap.size := World.block_lt_of_cell? w _ kq
  have HD := Lib.hid hd
  have HF := Lib.hid hF
  have HS := Lib.hid hS
  obtain ⟨T, hT⟩ : ∃ T, T = S.crash x.dirs x.cuts := ⟨_, rfl⟩
  have HT := Lib.hid hT
  rw [← HT.out]
  have HXA := Lib.hid hxa
  have HI := Lib.hid hI
  obtain ⟨m, hm⟩ : ∃ m, m = x.dirs.length := ⟨_, rfl⟩
  have HM := Lib.hid hm
  obtain ⟨m2, hm2⟩ : ∃ m2, m2 = x.cuts.length := ⟨_, rfl⟩
  have HM2 := Lib.hid hm2
  obtain ⟨W, hW⟩ : ∃ W, W = ((w.alloc (.cells (stepCells x L) 69)).alloc (.cells zeroSaid 41)).alloc (.cells zeroSaid 41) := ⟨_, rfl⟩
  have HWB : Hid (Below w.heap.size w W) := Lib.hid (by rw [hW]; exact (((Below.refl _ w).alloc (Nat.le_refl _) _).alloc (by simp) _).alloc (by simp; omega) _)
  have HBW : Hid (Box W w.heap.size) := Lib.hid (by
    rw [hW]
    constructor
    · have := Blk.new ((w.alloc (.cells (stepCells x L) 69)).alloc (.cells zeroSaid 41)) 41 zeroSaid
      simpa using this
    · have := Blk.new (w.alloc (.cells (stepCells x L) 69)) 41 zeroSaid
      have := this.alloc (.cells zeroSaid 41)
      simpa using this)
  have HXW : Hid (Blk W w.heap.size 69 (stepCells x L)) := Lib.hid (by rw [hW]; exact ((Blk.new _ _ _).alloc _).alloc _)
  have HWS : Hid (W.heap.size = w.heap.size + 3) := Lib.hid (by rw [hW]; simp)
  unfold stepCells zeroSaid at hW
  rw [hk] at hW
  unfold stepCells
  rw [hk]
  have HW := Lib.hid hW
  have kqc : W.cell? ⟨q, 0, none⟩ = some (.pointer (some ⟨p, 0, none⟩)) := head_cell (HD.out.below HWB.out).wn
  rw [hW] at kqc
  rw [← HM.out, ← HM2.out] at HW kqc
  rw [← HM.out, ← HM2.out]
  clear hk hx hd hF hS hT hm hm2 hxa hI hW
  go_enter Try.func65, Try.ntmps65
  go_wp2_with fail
  go_region_held3 (fun w' => w'.cell? ⟨q, 0, none⟩ = some (.pointer (some ⟨p, 0, none⟩)) ∧ w'.cell? ⟨w.heap.size, 9, none⟩ = some (.slice L.pr m L.cr) ∧ w'.cell? ⟨w.heap.size, 10, none⟩ = some (.slice L.pc m2 L.cc)) (first | go_keep | (go_split_ands; refine ⟨?_, ?_, ?_⟩ <;> (rw [World.cell?_setCell_other _ _ _ _ (by first | simp | (simp; omega))]; assumption)))
    (first
      | (go_at_call 44; rw [← HW.out]; refine (fate_any L.pr m L.cr x.dirs L.pc m2 L.cc x.cuts W.drew B (by rw [HM.out]; exact (HXA.out.dirs.below (HWB.out.mono hB)).drew) (by rw [HM2.out]; exact (HXA.out.cuts.below (HWB.out.mono hB)).drew) (Nat.le_trans hB HWB.out.size) (by rw [HM.out]; exact HX.out.dirs) (by rw [HM2.out]; exact HX.out.cuts)).mono ?_; rintro e w1 ⟨a1, c1, a2, c2, rfl, ho, ho2, hb⟩; have hb' : Below W.heap.size W w1 := below_of_drew hb; have kq' : w1.cell? ⟨q, 0, none⟩ = some (.pointer (some ⟨p, 0, none⟩)) := head_cell ((HD.out.below HWB.out).below hb').wn; have k9 : w1.cell? ⟨w.heap.size, 9, none⟩ = some (.slice L.pr m L.cr) := (by rw [HM.out]; exact (hb'.cell HXW.out.lt).trans (HXW.out.cell 9)); have k10 : w1.cell? ⟨w.heap.size, 10, none⟩ = some (.slice L.pc m2 L.cc) := (by rw [HM2.out]; exact (hb'.cell HXW.out.lt).trans (HXW.out.cell 10)); have HBX1 := Lib.hid (HBW.out.below hb'); have HO1 := Lib.hid ho; have HO2 := Lib.hid ho2; have HB1 := Lib.hid hb'; clear ho ho2 hb hb')
      | (go_at_call 43; refine (wcrash_any q p X S N F a1 m c1 x.dirs a2 m2 c2 x.cuts w1 ((HD.out.below HWB.out).below HB1.out) HI.out hN (Reads.of_own HO1.out) (Reads.of_own HO2.out) (spot_none HO1.out) (spot_none HO2.out) (by rw [HM.out]; exact HX.out.dirs) (by rw [HM2.out]; have := HX.out.cuts; omega)).mono ?_; rintro e w2 ⟨rfl, hd2, ht2⟩; rw [← HT.out] at hd2; have HBX := Lib.hid (HBX1.out.touch ht2 HF.out); have HD2 := Lib.hid hd2; have HT2 := Lib.hid ht2; have kq' : w2.cell? ⟨q, 0, none⟩ = some (.pointer (some ⟨p, 0, none⟩)) := head_cell (HD2.out).wn; have k9 : w2.cell? ⟨w.heap.size, 9, none⟩ = some (.slice L.pr m L.cr) := (World.cell?_of_block (ht2.block _ (Nat.lt_of_lt_of_le HXW.out.lt HB1.out.size) (fun hf => absurd (HF.out _ hf) (Nat.lt_irrefl _)))).trans k9; have k10 : w2.cell? ⟨w.heap.size, 10, none⟩ = some (.slice L.pc m2 L.cc) := (World.cell?_of_block (ht2.block _ (Nat.lt_of_lt_of_le HXW.out.lt HB1.out.size) (fun hf => absurd (HF.out _ hf) (Nat.lt_irrefl _)))).trans k10; clear hd2 ht2; have b0 : w2.cell? ⟨w.heap.size + 1 + 1, 0, none⟩ = some (.int .i64 0) := HBX.out.s.cell 0; have b1 : w2.cell? ⟨w.heap.size + 1 + 1, 1, none⟩ = some (.slice none 0 0) := HBX.out.s.cell 1; have b2 : w2.cell? ⟨w.heap.size + 1 + 1, 2, none⟩ = some (.slice none 0 0) := HBX.out.s.cell 2; have b3 : w2.cell? ⟨w.heap.size + 1 + 1, 3, none⟩ = some (.slice none 0 0) := HBX.out.s.cell 3; have b4 : w2.cell? ⟨w.heap.size + 1 + 1, 4, none⟩ = some (.int .i64 0) := HBX.out.s.cell 4; have b5 : w2.cell? ⟨w.heap.size + 1 + 1, 5, none⟩ = some (.bool false) := HBX.out.s.cell 5; have bf : ∀ i, w2.frozen? ⟨w.heap.size + 1 + 1, i, none⟩ = false := HBX.out.s.frozen; have r0 : w2.cell? ⟨w.heap.size + 1, 0, none⟩ = some (.int .i64 0) := HBX.out.r.cell 0; have r1 : w2.cell? ⟨w.heap.size + 1, 1, none⟩ = some (.slice none 0 0) := HBX.out.r.cell 1; have r2 : w2.cell? ⟨w.heap.size + 1, 2, none⟩ = some (.slice none 0 0) := HBX.out.r.cell 2; have r3 : w2.cell? ⟨w.heap.size + 1, 3, none⟩ = some (.slice none 0 0) := HBX.out.r.cell 3; have r4 : w2.cell? ⟨w.heap.size + 1, 4, none⟩ = some (.int .i64 0) := HBX.out.r.cell 4; have r5 : w2.cell? ⟨w.heap.size + 1, 5, none⟩ = some (.bool false) := HBX.out.r.cell 5; have rf : ∀ i, w2.frozen? ⟨w.heap.size + 1, i, none⟩ = false := HBX.out.r.frozen))
  go_wp2
  refine bodyPost_ret (v := .agg #[.int .i64 0, .slice none 0 0, .slice none 0 0, .slice none 0 0, .int .i64 0, .bool false]) (by simp only [results, Try.results65]; go_simp) rfl ?_
  refine ⟨_, rfl, Said.code_at _ _ _, frame_wd (G := fun k => k = w.heap.size + 1 ∨ k = w.heap.size + 1 + 1) (HWB.out.trans (HB1.out.mono HWB.out.size)) HD2.out HT2.out ?_ ?_ HF.out (fun k hk => by have := HWS.out; have := HB1.out.size; rcases hk with rfl | rfl <;> omega)⟩
  · exact (((((((Touch.refl _ _).set (Or.inr rfl) _).set (Or.inl rfl) _).set (Or.inl rfl) _).set (Or.inl rfl) _).set (Or.inl rfl) _).set (Or.inl rfl) _).set (Or.inl rfl) _
  · simp only [size_set]

set_option maxRecDepth 100000 in
set_option maxHeartbeats 1000000 in
theorem promoted_loose (q p : Nat) (X : Wnd) (S : Drv) (F : Nat → Prop) (x : PStep) (L : SLay) (w : World) (hk : x.kind = 19) (hx : x.Fits) (hd : WD w q p X S F) (hF : ∀ k, F k → k < w.heap.size) (hS : S.Small) :
    Calls Try.prog 65 #[.pointer (some ⟨q, 0, none⟩), .agg (stepCells x L)] w fun e w' =>
      ∃ u, e = .returned u ∧ SaidAt w' w.heap.size u { Said.none_ with n := (S.loose x.nm).1, e := (S.loose x.nm).2 } ∧ WD w' q p X S (grow F w w') ∧ Touch F w w' := by
  have HX := Lib.hid hx
  have kq : w.cell? ⟨q, 0, none⟩ = some (.pointer (some ⟨p, 0, none⟩)) := head_cell hd.wn
  have kql : q < w.heap.size := World.block_lt_of_cell? w _ kq
  have HD := Lib.hid hd
  have HF := Lib.hid hF
  have HS := Lib.hid hS
  obtain ⟨E, hE⟩ : ∃ E, E = (S.loose x.nm).2 := ⟨_, rfl⟩
  have HE := Lib.hid hE
  rw [← HE.out]
  obtain ⟨V, hV⟩ : ∃ V : Int, V = (S.loose x.nm).1 := ⟨_, rfl⟩
  have HV := Lib.hid hV
  rw [← HV.out]
  obtain ⟨addr, hda⟩ := HD.out.dr
  have HDA := Lib.hid hda
  obtain ⟨W, hW⟩ : ∃ W, W = ((w.alloc (.cells (stepCells x L) 69)).alloc (.cells zeroSaid 41)).alloc (.cells zeroSaid 41) := ⟨_, rfl⟩
  have HWB : Hid (Below w.heap.size w W) := Lib.hid (by rw [hW]; exact (((Below.refl _ w).alloc (Nat.le_refl _) _).alloc (by simp) _).alloc (by simp; omega) _)
  have HBW : Hid (Box W w.heap.size) := Lib.hid (by
    rw [hW]
    constructor
    · have := Blk.new ((w.alloc (.cells (stepCells x L) 69)).alloc (.cells zeroSaid 41)) 41 zeroSaid
      simpa using this
    · have := Blk.new (w.alloc (.cells (stepCells x L) 69)) 41 zeroSaid
      have := this.alloc (.cells zeroSaid 41)
      simpa using this)
  have HXW : Hid (Blk W w.heap.size 69 (stepCells x L)) := Lib.hid (by rw [hW]; exact ((Blk.new _ _ _).alloc _).alloc _)
  have HWS : Hid (W.heap.size = w.heap.size + 3) := Lib.hid (by rw [hW]; simp)
  unfold stepCells zeroSaid at hW
  rw [hk] at hW
  unfold stepCells
  rw [hk]
  have HW := Lib.hid hW
  have kqc : W.cell? ⟨q, 0, none⟩ = some (.pointer (some ⟨p, 0, none⟩)) := head_cell (HD.out.below HWB.out).wn
  rw [hW] at kqc
  clear hk hx hd hF hS hE hV hda hW
  go_enter Try.func65, Try.ntmps65
  go_wp2_with fail
  go_region_held3 (fun w' => w'.cell? ⟨q, 0, none⟩ = some (.pointer (some ⟨p, 0, none⟩)) ∧ w'.cell? ⟨w.heap.size, 1, none⟩ = some (.string x.name)) (first | go_keep | (go_split_ands; refine ⟨?_, ?_⟩ <;> (rw [World.cell?_setCell_other _ _ _ _ (by first | simp | (simp; omega))]; assumption)))
    ((go_at_call 66; rw [← HW.out]; refine (loose_any p S addr F x.name W.drew HX.out.name (HDA.out.keep (Touch.of_below (F := fun _ => False) (below_drewN HWB.out 1)) fun _ _ h => h) HS.out.len HS.out.safe).mono ?_; rintro e w2 ⟨rfl, hb⟩; rw [show (S.loose x.name.data.toList).1 = V from HV.out.symm, show (S.loose x.name.data.toList).2 = E from HE.out.symm]; have HB := Lib.hid (below_of_drew hb); have HBX := Lib.hid (HBW.out.below HB.out); have kq' : w2.cell? ⟨q, 0, none⟩ = some (.pointer (some ⟨p, 0, none⟩)) := head_cell ((HD.out.below HWB.out).below HB.out).wn; have k1 : w2.cell? ⟨w.heap.size, 1, none⟩ = some (.string x.name) := (HB.out.cell HXW.out.lt).trans (HXW.out.cell 1); clear hb; have b0 : w2.cell? ⟨w.heap.size + 1 + 1, 0, none⟩ = some (.int .i64 0) := HBX.out.s.cell 0; have b1 : w2.cell? ⟨w.heap.size + 1 + 1, 1, none⟩ = some (.slice none 0 0) := HBX.out.s.cell 1; have b2 : w2.cell? ⟨w.heap.size + 1 + 1, 2, none⟩ = some (.slice none 0 0) := HBX.out.s.cell 2; have b3 : w2.cell? ⟨w.heap.size + 1 + 1, 3, none⟩ = some (.slice none 0 0) := HBX.out.s.cell 3; have b4 : w2.cell? ⟨w.heap.size + 1 + 1, 4, none⟩ = some (.int .i64 0) := HBX.out.s.cell 4; have b5 : w2.cell? ⟨w.heap.size + 1 + 1, 5, none⟩ = some (.bool false) := HBX.out.s.cell 5; have bf : ∀ i, w2.frozen? ⟨w.heap.size + 1 + 1, i, none⟩ = false := HBX.out.s.frozen; have r0 : w2.cell? ⟨w.heap.size + 1, 0, none⟩ = some (.int .i64 0) := HBX.out.r.cell 0; have r1 : w2.cell? ⟨w.heap.size + 1, 1, none⟩ = some (.slice none 0 0) := HBX.out.r.cell 1; have r2 : w2.cell? ⟨w.heap.size + 1, 2, none⟩ = some (.slice none 0 0) := HBX.out.r.cell 2; have r3 : w2.cell? ⟨w.heap.size + 1, 3, none⟩ = some (.slice none 0 0) := HBX.out.r.cell 3; have r4 : w2.cell? ⟨w.heap.size + 1, 4, none⟩ = some (.int .i64 0) := HBX.out.r.cell 4; have r5 : w2.cell? ⟨w.heap.size + 1, 5, none⟩ = some (.bool false) := HBX.out.r.cell 5; have rf : ∀ i, w2.frozen? ⟨w.heap.size + 1, i, none⟩ = false := HBX.out.r.frozen))
  go_wp2
  refine bodyPost_ret (v := .agg #[.int .i64 E, .slice none 0 0, .slice none 0 0, .slice none 0 0, .int .i64 V, .bool false]) (by simp only [results, Try.results65]; go_simp) rfl ?_
  have GB : ∀ k, (k = w.heap.size + 1 ∨ k = w.heap.size + 1 + 1) → k < W.heap.size := fun k hk => by have := HWS.out; rcases hk with rfl | rfl <;> omega
  exact ⟨_, rfl, ⟨_, _, _, rfl, World.ownsRow_nil _ _ _ _, World.ownsRow_nil _ _ _ _, FilesAt.nil _ _⟩, frame_wd (G := fun k => k = w.heap.size + 1 ∨ k = w.heap.size + 1 + 1) HWB.out (wd_grow (HD.out.below HWB.out) HB.out |>.mono fun k h => h) (Touch.of_below HB.out) (by exact ((((((((Touch.refl _ _).set (Or.inr rfl) _).set (Or.inr rfl) _).set (Or.inl rfl) _).set (Or.inl rfl) _).set (Or.inl rfl) _).set (Or.inl rfl) _).set (Or.inl rfl) _).set (Or.inl rfl) _) (by simp only [size_set]) HF.out (fun k hk => by have := HWS.out; rcases hk with rfl | rfl <;> omega)⟩

set_option maxRecDepth 100000 in
set_option maxHeartbeats 1000000 in
theorem promoted_cut (q p : Nat) (X : Wnd) (S : Drv) (F : Nat → Prop) (x : PStep) (L : SLay) (w : World) (hk : x.kind = 24) (hx : x.Fits) (hd : WD w q p X S F) (hF : ∀ k, F k → k < w.heap.size) (hS : S.Small) :
    Calls Try.prog 65 #[.pointer (some ⟨q, 0, none⟩), .agg (stepCells x L)] w fun e w' =>
      ∃ u, e = .returned u ∧ SaidAt w' w.heap.size u (.code (S.cut x.nm x.a).2) ∧ WD w' q p X (S.cut x.nm x.a).1 (grow F w w') ∧ Touch F w w' := by
  have HX := Lib.hid hx
  have kq : w.cell? ⟨q, 0, none⟩ = some (.pointer (some ⟨p, 0, none⟩)) := head_cell hd.wn
  have kql : q < w.heap.size := World.block_lt_of_cell? w _ kq
  have HD := Lib.hid hd
  have HF := Lib.hid hF
  have HS := Lib.hid hS
  obtain ⟨E, hE⟩ : ∃ E, E = (S.cut x.nm x.a).2 := ⟨_, rfl⟩
  have HE := Lib.hid hE
  rw [← HE.out]
  obtain ⟨T, hT⟩ : ∃ T, T = (S.cut x.nm x.a).1 := ⟨_, rfl⟩
  have HT := Lib.hid hT
  rw [← HT.out]
  obtain ⟨W, hW⟩ : ∃ W, W = ((w.alloc (.cells (stepCells x L) 69)).alloc (.cells zeroSaid 41)).alloc (.cells zeroSaid 41) := ⟨_, rfl⟩
  have HWB : Hid (Below w.heap.size w W) := Lib.hid (by rw [hW]; exact (((Below.refl _ w).alloc (Nat.le_refl _) _).alloc (by simp) _).alloc (by simp; omega) _)
  have HBW : Hid (Box W w.heap.size) := Lib.hid (by
    rw [hW]
    constructor
    · have := Blk.new ((w.alloc (.cells (stepCells x L) 69)).alloc (.cells zeroSaid 41)) 41 zeroSaid
      simpa using this
    · have := Blk.new (w.alloc (.cells (stepCells x L) 69)) 41 zeroSaid
      have := this.alloc (.cells zeroSaid 41)
      simpa using this)
  have HXW : Hid (Blk W w.heap.size 69 (stepCells x L)) := Lib.hid (by rw [hW]; exact ((Blk.new _ _ _).alloc _).alloc _)
  have HWS : Hid (W.heap.size = w.heap.size + 3) := Lib.hid (by rw [hW]; simp)
  unfold stepCells zeroSaid at hW
  rw [hk] at hW
  unfold stepCells
  rw [hk]
  have HW := Lib.hid hW
  have kqc : W.cell? ⟨q, 0, none⟩ = some (.pointer (some ⟨p, 0, none⟩)) := head_cell (HD.out.below HWB.out).wn
  rw [hW] at kqc
  clear hk hx hd hF hS hE hT hW
  go_enter Try.func65, Try.ntmps65
  go_wp2_with fail
  go_region_held3 (fun w' => w'.cell? ⟨q, 0, none⟩ = some (.pointer (some ⟨p, 0, none⟩)) ∧ w'.cell? ⟨w.heap.size, 1, none⟩ = some (.string x.name) ∧ w'.cell? ⟨w.heap.size, 4, none⟩ = some (.int .i64 x.a)) (first | go_keep | (go_split_ands; refine ⟨?_, ?_, ?_⟩ <;> (rw [World.cell?_setCell_other _ _ _ _ (by first | simp | (simp; omega))]; assumption)))
    ((go_at_call 68; rw [← HW.out]; refine (wd_lift (HD.out.below (below_drewN HWB.out 1)) fun FD hd _ => cut_any p S FD x.name x.a W.drew HX.out.name hd HS.out).mono ?_; rintro e w2 ⟨rfl, hd2, ht2'⟩; rw [show (S.cut x.name.data.toList x.a).2 = E from HE.out.symm]; rw [show (S.cut x.name.data.toList x.a).1 = T from HT.out.symm] at hd2; have ht2 : Touch F W w2 := (Touch.drewN W 1).trans (ht2'.mono fun k _ hk => .inl hk); have HBX := Lib.hid (HBW.out.touch ht2 HF.out); have HD2 : Hid (WD w2 q p X T (grow F W w2)) := Lib.hid hd2; have HT2 := Lib.hid ht2; have kq' : w2.cell? ⟨q, 0, none⟩ = some (.pointer (some ⟨p, 0, none⟩)) := head_cell (HD2.out).wn; have k1 : w2.cell? ⟨w.heap.size, 1, none⟩ = some (.string x.name) := (World.cell?_of_block (ht2.block _ HXW.out.lt (fun hf => absurd (HF.out _ hf) (Nat.lt_irrefl _)))).trans (HXW.out.cell 1); have k4 : w2.cell? ⟨w.heap.size, 4, none⟩ = some (.int .i64 x.a) := (World.cell?_of_block (ht2.block _ HXW.out.lt (fun hf => absurd (HF.out _ hf) (Nat.lt_irrefl _)))).trans (HXW.out.cell 4); clear hd2 ht2 ht2'; have b0 : w2.cell? ⟨w.heap.size + 1 + 1, 0, none⟩ = some (.int .i64 0) := HBX.out.s.cell 0; have b1 : w2.cell? ⟨w.heap.size + 1 + 1, 1, none⟩ = some (.slice none 0 0) := HBX.out.s.cell 1; have b2 : w2.cell? ⟨w.heap.size + 1 + 1, 2, none⟩ = some (.slice none 0 0) := HBX.out.s.cell 2; have b3 : w2.cell? ⟨w.heap.size + 1 + 1, 3, none⟩ = some (.slice none 0 0) := HBX.out.s.cell 3; have b4 : w2.cell? ⟨w.heap.size + 1 + 1, 4, none⟩ = some (.int .i64 0) := HBX.out.s.cell 4; have b5 : w2.cell? ⟨w.heap.size + 1 + 1, 5, none⟩ = some (.bool false) := HBX.out.s.cell 5; have bf : ∀ i, w2.frozen? ⟨w.heap.size + 1 + 1, i, none⟩ = false := HBX.out.s.frozen; have r0 : w2.cell? ⟨w.heap.size + 1, 0, none⟩ = some (.int .i64 0) := HBX.out.r.cell 0; have r1 : w2.cell? ⟨w.heap.size + 1, 1, none⟩ = some (.slice none 0 0) := HBX.out.r.cell 1; have r2 : w2.cell? ⟨w.heap.size + 1, 2, none⟩ = some (.slice none 0 0) := HBX.out.r.cell 2; have r3 : w2.cell? ⟨w.heap.size + 1, 3, none⟩ = some (.slice none 0 0) := HBX.out.r.cell 3; have r4 : w2.cell? ⟨w.heap.size + 1, 4, none⟩ = some (.int .i64 0) := HBX.out.r.cell 4; have r5 : w2.cell? ⟨w.heap.size + 1, 5, none⟩ = some (.bool false) := HBX.out.r.cell 5; have rf : ∀ i, w2.frozen? ⟨w.heap.size + 1, i, none⟩ = false := HBX.out.r.frozen))
  go_wp2
  refine bodyPost_ret (v := .agg #[.int .i64 E, .slice none 0 0, .slice none 0 0, .slice none 0 0, .int .i64 0, .bool false]) (by simp only [results, Try.results65]; go_simp) rfl ?_
  refine ⟨_, rfl, Said.code_at _ _ _, frame_wd (G := fun k => k = w.heap.size + 1 ∨ k = w.heap.size + 1 + 1) HWB.out HD2.out HT2.out ?_ ?_ HF.out (fun k hk => by have := HWS.out; rcases hk with rfl | rfl <;> omega)⟩
  · exact (((((((Touch.refl _ _).set (Or.inr rfl) _).set (Or.inl rfl) _).set (Or.inl rfl) _).set (Or.inl rfl) _).set (Or.inl rfl) _).set (Or.inl rfl) _).set (Or.inl rfl) _
  · simp only [size_set]
end Go.Proofs.Ytdmcjomcbhdcbaa
