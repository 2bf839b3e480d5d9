/- The law's helper 'plain', at each of the eight calls. -/
import Derived.Test.YtdmcjomcbhdcbaaLe
import Derived.Deep.RegionHeld3
namespace Go.Proofs.Ytdmcjomcbhdcbaa
open Go.RowKit Go.Maps

theorem Said.code_at (w : World) (base : Nat) (e : Int) : SaidAt w base (.agg #[.int .i64 e, .slice none 0 0, .slice none 0 0, .slice none 0 0, .int .i64 0, .bool false]) (Said.code e) :=
  ⟨_, _, _, rfl, World.ownsRow_nil _ _ _ _, World.ownsRow_nil _ _ _ _, FilesAt.nil _ _⟩
def zeroSaid : Array Value := #[.int .i64 0, .slice none 0 0, .slice none 0 0, .slice none 0 0, .int .i64 0, .bool false]
/-- The blocks of a law's helper. -/
structure Box (W : World) (h : Nat) : Prop where
  s : Blk W (h + 1 + 1) 41 zeroSaid
  r : Blk W (h + 1) 41 zeroSaid
theorem Box.touch {W w2 : World} {h : Nat} {F : Nat → Prop} (hb : Box W h) (ht : Touch F W w2) (hF : ∀ k, F k → k < h) : Box w2 h :=
  ⟨(ht.block _ hb.s.lt fun e => by have := hF _ e; omega).trans hb.s, (ht.block _ hb.r.lt fun e => by have := hF _ e; omega).trans hb.r⟩
theorem Box.below {W w2 : World} {h : Nat} (hb : Box W h) (ht : Below W.heap.size W w2) : Box w2 h := hb.touch (F := fun _ => False) (Touch.of_below ht) fun _ h => h.elim

theorem row_touch {w2 X : World} {base n s : Nat} {e : TypeId} {v : Value} {xs : List Value} {G : Nat → Prop} (h : w2.ownsRow base e s v n xs) (ht : Touch G w2 X) (hG : ∀ k, G k → k < base) : X.ownsRow base e s v n xs :=
  ownsRow_keep h fun k hk => ht.block k (h.lt k hk).2 fun hg => by have := hG k hg; have := (h.lt k hk).1; omega
theorem dr_grow {w W : World} {p : Nat} {S : Drv} {F : Nat → Prop} (h : Dr w p S F) (hb : Below w.heap.size w W) : Dr W p S (grow F w W) := (h.below hb).mono fun _ hk => .inl hk


set_option maxRecDepth 100000 in
set_option maxHeartbeats 1000000 in
theorem plain_create (p : Nat) (S : Drv) (F : Nat → Prop) (x : PStep) (L : SLay) (w : World) (hk : x.kind = 1) (hx : x.Fits) (hd : Dr w p S F) (hF : ∀ k, F k → k < w.heap.size) (hS : S.Small) :
    Calls Try.prog 41 #[.pointer (some ⟨p, 0, none⟩), .agg (stepCells x L)] w fun e w' =>
      ∃ u, e = .returned u ∧ SaidAt w' w.heap.size u (.code (S.create x.nm).2) ∧ Dr w' p (S.create x.nm).1 (grow F w w') ∧ Touch F w w' := by
  have HX := Lib.hid hx
  have HD := Lib.hid hd
  have HF := Lib.hid hF
  have HS := Lib.hid hS
  obtain ⟨E, hE⟩ : ∃ E, E = (S.create x.nm).2 := ⟨_, rfl⟩
  have HE := Lib.hid hE
  rw [← HE.out]
  obtain ⟨T, hT⟩ : ∃ T, T = (S.create x.nm).1 := ⟨_, rfl⟩
  have HT := Lib.hid hT
  rw [← HT.out]
  obtain ⟨W, hW⟩ : ∃ W, W = ((w.alloc (.cells (stepCells x L) 69)).alloc (.cells zeroSaid 41)).alloc (.cells zeroSaid 41) := ⟨_, rfl⟩
  have HWB : Hid (Below w.heap.size w W) := Lib.hid (by rw [hW]; exact (((Below.refl _ w).alloc (Nat.le_refl _) _).alloc (by simp) _).alloc (by simp; omega) _)
  have HBW : Hid (Box W w.heap.size) := Lib.hid (by
    rw [hW]
    constructor
    · have := Blk.new ((w.alloc (.cells (stepCells x L) 69)).alloc (.cells zeroSaid 41)) 41 zeroSaid
      simpa using this
    · have := Blk.new (w.alloc (.cells (stepCells x L) 69)) 41 zeroSaid
      have := this.alloc (.cells zeroSaid 41)
      simpa using this)
  have HXW : Hid (Blk W w.heap.size 69 (stepCells x L)) := Lib.hid (by rw [hW]; exact ((Blk.new _ _ _).alloc _).alloc _)
  have HWS : Hid (W.heap.size = w.heap.size + 3) := Lib.hid (by rw [hW]; simp)
  unfold stepCells zeroSaid at hW
  rw [hk] at hW
  unfold stepCells
  rw [hk]
  have HW := Lib.hid hW
  clear hk hx hd hF hS hE hT hW
  go_enter Try.func41, Try.ntmps41
  go_wp2_with (go_at_call 51; rw [← HW.out]; refine (create_any p S F x.name W HX.out.name (HD.out.below HWB.out) HS.out).mono ?_; rintro e w2 ⟨rfl, hd2, ht2⟩; rw [← HE.out]; rw [← HT.out] at hd2; have HBX := Lib.hid (HBW.out.touch ht2 HF.out); have HD2 := Lib.hid hd2; have HT2 := Lib.hid ht2; clear hd2 ht2; have b0 : w2.cell? ⟨w.heap.size + 1 + 1, 0, none⟩ = some (.int .i64 0) := HBX.out.s.cell 0; have b1 : w2.cell? ⟨w.heap.size + 1 + 1, 1, none⟩ = some (.slice none 0 0) := HBX.out.s.cell 1; have b2 : w2.cell? ⟨w.heap.size + 1 + 1, 2, none⟩ = some (.slice none 0 0) := HBX.out.s.cell 2; have b3 : w2.cell? ⟨w.heap.size + 1 + 1, 3, none⟩ = some (.slice none 0 0) := HBX.out.s.cell 3; have b4 : w2.cell? ⟨w.heap.size + 1 + 1, 4, none⟩ = some (.int .i64 0) := HBX.out.s.cell 4; have b5 : w2.cell? ⟨w.heap.size + 1 + 1, 5, none⟩ = some (.bool false) := HBX.out.s.cell 5; have bf : ∀ i, w2.frozen? ⟨w.heap.size + 1 + 1, i, none⟩ = false := HBX.out.s.frozen; have r0 : w2.cell? ⟨w.heap.size + 1, 0, none⟩ = some (.int .i64 0) := HBX.out.r.cell 0; have r1 : w2.cell? ⟨w.heap.size + 1, 1, none⟩ = some (.slice none 0 0) := HBX.out.r.cell 1; have r2 : w2.cell? ⟨w.heap.size + 1, 2, none⟩ = some (.slice none 0 0) := HBX.out.r.cell 2; have r3 : w2.cell? ⟨w.heap.size + 1, 3, none⟩ = some (.slice none 0 0) := HBX.out.r.cell 3; have r4 : w2.cell? ⟨w.heap.size + 1, 4, none⟩ = some (.int .i64 0) := HBX.out.r.cell 4; have r5 : w2.cell? ⟨w.heap.size + 1, 5, none⟩ = some (.bool false) := HBX.out.r.cell 5; have rf : ∀ i, w2.frozen? ⟨w.heap.size + 1, i, none⟩ = false := HBX.out.r.frozen)
  refine bodyPost_ret (v := .agg #[.int .i64 E, .slice none 0 0, .slice none 0 0, .slice none 0 0, .int .i64 0, .bool false]) (by simp only [results, Try.results41]; go_simp) rfl ?_
  refine ⟨_, rfl, Said.code_at _ _ _, frame_dr (G := fun k => k = w.heap.size + 1 ∨ k = w.heap.size + 1 + 1) HWB.out HD2.out HT2.out ?_ ?_ HF.out (fun k hk => by have := HWS.out; rcases hk with rfl | rfl <;> omega)⟩
  · exact (((((((Touch.refl _ _).set (Or.inr rfl) _).set (Or.inl rfl) _).set (Or.inl rfl) _).set (Or.inl rfl) _).set (Or.inl rfl) _).set (Or.inl rfl) _).set (Or.inl rfl) _
  · simp only [size_set]

set_option maxRecDepth 100000 in
set_option maxHeartbeats 1000000 in
theorem plain_sync (p : Nat) (S : Drv) (F : Nat → Prop) (x : PStep) (L : SLay) (w : World) (hk : x.kind = 3) (hx : x.Fits) (hd : Dr w p S F) (hF : ∀ k, F k → k < w.heap.size) (hS : S.Small) :
    Calls Try.prog 41 #[.pointer (some ⟨p, 0, none⟩), .agg (stepCells x L)] w fun e w' =>
      ∃ u, e = .returned u ∧ SaidAt w' w.heap.size u (.code (S.sync x.nm).2) ∧ Dr w' p (S.sync x.nm).1 (grow F w w') ∧ Touch F w w' := by
  have HX := Lib.hid hx
  have HD := Lib.hid hd
  have HF := Lib.hid hF
  have HS := Lib.hid hS
  obtain ⟨E, hE⟩ : ∃ E, E = (S.sync x.nm).2 := ⟨_, rfl⟩
  have HE := Lib.hid hE
  rw [← HE.out]
  obtain ⟨T, hT⟩ : ∃ T, T = (S.sync x.nm).1 := ⟨_, rfl⟩
  have HT := Lib.hid hT
  rw [← HT.out]
  obtain ⟨W, hW⟩ : ∃ W, W = ((w.alloc (.cells (stepCells x L) 69)).alloc (.cells zeroSaid 41)).alloc (.cells zeroSaid 41) := ⟨_, rfl⟩
  have HWB : Hid (Below w.heap.size w W) := Lib.hid (by rw [hW]; exact (((Below.refl _ w).alloc (Nat.le_refl _) _).alloc (by simp) _).alloc (by simp; omega) _)
  have HBW : Hid (Box W w.heap.size) := Lib.hid (by
    rw [hW]
    constructor
    · have := Blk.new ((w.alloc (.cells (stepCells x L) 69)).alloc (.cells zeroSaid 41)) 41 zeroSaid
      simpa using this
    · have := Blk.new (w.alloc (.cells (stepCells x L) 69)) 41 zeroSaid
      have := this.alloc (.cells zeroSaid 41)
      simpa using this)
  have HXW : Hid (Blk W w.heap.size 69 (stepCells x L)) := Lib.hid (by rw [hW]; exact ((Blk.new _ _ _).alloc _).alloc _)
  have HWS : Hid (W.heap.size = w.heap.size + 3) := Lib.hid (by rw [hW]; simp)
  unfold stepCells zeroSaid at hW
  rw [hk] at hW
  unfold stepCells
  rw [hk]
  have HW := Lib.hid hW
  clear hk hx hd hF hS hE hT hW
  go_enter Try.func41, Try.ntmps41
  go_wp2_with (go_at_call 54; rw [← HW.out]; refine (sync_any p S F x.name W HX.out.name (HD.out.below HWB.out) HS.out).mono ?_; rintro e w2 ⟨rfl, hd2, ht2⟩; rw [← HE.out]; rw [← HT.out] at hd2; have HBX := Lib.hid (HBW.out.touch ht2 HF.out); have HD2 := Lib.hid hd2; have HT2 := Lib.hid ht2; clear hd2 ht2; have b0 : w2.cell? ⟨w.heap.size + 1 + 1, 0, none⟩ = some (.int .i64 0) := HBX.out.s.cell 0; have b1 : w2.cell? ⟨w.heap.size + 1 + 1, 1, none⟩ = some (.slice none 0 0) := HBX.out.s.cell 1; have b2 : w2.cell? ⟨w.heap.size + 1 + 1, 2, none⟩ = some (.slice none 0 0) := HBX.out.s.cell 2; have b3 : w2.cell? ⟨w.heap.size + 1 + 1, 3, none⟩ = some (.slice none 0 0) := HBX.out.s.cell 3; have b4 : w2.cell? ⟨w.heap.size + 1 + 1, 4, none⟩ = some (.int .i64 0) := HBX.out.s.cell 4; have b5 : w2.cell? ⟨w.heap.size + 1 + 1, 5, none⟩ = some (.bool false) := HBX.out.s.cell 5; have bf : ∀ i, w2.frozen? ⟨w.heap.size + 1 + 1, i, none⟩ = false := HBX.out.s.frozen; have r0 : w2.cell? ⟨w.heap.size + 1, 0, none⟩ = some (.int .i64 0) := HBX.out.r.cell 0; have r1 : w2.cell? ⟨w.heap.size + 1, 1, none⟩ = some (.slice none 0 0) := HBX.out.r.cell 1; have r2 : w2.cell? ⟨w.heap.size + 1, 2, none⟩ = some (.slice none 0 0) := HBX.out.r.cell 2; have r3 : w2.cell? ⟨w.heap.size + 1, 3, none⟩ = some (.slice none 0 0) := HBX.out.r.cell 3; have r4 : w2.cell? ⟨w.heap.size + 1, 4, none⟩ = some (.int .i64 0) := HBX.out.r.cell 4; have r5 : w2.cell? ⟨w.heap.size + 1, 5, none⟩ = some (.bool false) := HBX.out.r.cell 5; have rf : ∀ i, w2.frozen? ⟨w.heap.size + 1, i, none⟩ = false := HBX.out.r.frozen)
  refine bodyPost_ret (v := .agg #[.int .i64 E, .slice none 0 0, .slice none 0 0, .slice none 0 0, .int .i64 0, .bool false]) (by simp only [results, Try.results41]; go_simp) rfl ?_
  refine ⟨_, rfl, Said.code_at _ _ _, frame_dr (G := fun k => k = w.heap.size + 1 ∨ k = w.heap.size + 1 + 1) HWB.out HD2.out HT2.out ?_ ?_ HF.out (fun k hk => by have := HWS.out; rcases hk with rfl | rfl <;> omega)⟩
  · exact (((((((Touch.refl _ _).set (Or.inr rfl) _).set (Or.inl rfl) _).set (Or.inl rfl) _).set (Or.inl rfl) _).set (Or.inl rfl) _).set (Or.inl rfl) _).set (Or.inl rfl) _
  · simp only [size_set]

set_option maxRecDepth 100000 in
set_option maxHeartbeats 1000000 in
theorem plain_rename (p : Nat) (S : Drv) (F : Nat → Prop) (x : PStep) (L : SLay) (w : World) (hk : x.kind = 4) (hx : x.Fits) (hd : Dr w p S F) (hF : ∀ k, F k → k < w.heap.size) (hS : S.Small) :
    Calls Try.prog 41 #[.pointer (some ⟨p, 0, none⟩), .agg (stepCells x L)] w fun e w' =>
      ∃ u, e = .returned u ∧ SaidAt w' w.heap.size u (.code (S.rename x.nm x.tn).2) ∧ Dr w' p (S.rename x.nm x.tn).1 (grow F w w') ∧ Touch F w w' := by
  have HX := Lib.hid hx
  have HD := Lib.hid hd
  have HF := Lib.hid hF
  have HS := Lib.hid hS
  obtain ⟨E, hE⟩ : ∃ E, E = (S.rename x.nm x.tn).2 := ⟨_, rfl⟩
  have HE := Lib.hid hE
  rw [← HE.out]
  obtain ⟨T, hT⟩ : ∃ T, T = (S.rename x.nm x.tn).1 := ⟨_, rfl⟩
  have HT := Lib.hid hT
  rw [← HT.out]
  obtain ⟨W, hW⟩ : ∃ W, W = ((w.alloc (.cells (stepCells x L) 69)).alloc (.cells zeroSaid 41)).alloc (.cells zeroSaid 41) := ⟨_, rfl⟩
  have HWB : Hid (Below w.heap.size w W) := Lib.hid (by rw [hW]; exact (((Below.refl _ w).alloc (Nat.le_refl _) _).alloc (by simp) _).alloc (by simp; omega) _)
  have HBW : Hid (Box W w.heap.size) := Lib.hid (by
    rw [hW]
    constructor
    · have := Blk.new ((w.alloc (.cells (stepCells x L) 69)).alloc (.cells zeroSaid 41)) 41 zeroSaid
      simpa using this
    · have := Blk.new (w.alloc (.cells (stepCells x L) 69)) 41 zeroSaid
      have := this.alloc (.cells zeroSaid 41)
      simpa using this)
  have HXW : Hid (Blk W w.heap.size 69 (stepCells x L)) := Lib.hid (by rw [hW]; exact ((Blk.new _ _ _).alloc _).alloc _)
  have HWS : Hid (W.heap.size = w.heap.size + 3) := Lib.hid (by rw [hW]; simp)
  unfold stepCells zeroSaid at hW
  rw [hk] at hW
  unfold stepCells
  rw [hk]
  have HW := Lib.hid hW
  clear hk hx hd hF hS hE hT hW
  go_enter Try.func41, Try.ntmps41
  go_wp2_with (go_at_call 55; rw [← HW.out]; refine (rename_any p S F x.name x.to W HX.out.name HX.out.to (HD.out.below HWB.out) HS.out).mono ?_; rintro e w2 ⟨rfl, hd2, ht2⟩; rw [← HE.out]; rw [← HT.out] at hd2; have HBX := Lib.hid (HBW.out.touch ht2 HF.out); have HD2 := Lib.hid hd2; have HT2 := Lib.hid ht2; clear hd2 ht2; have b0 : w2.cell? ⟨w.heap.size + 1 + 1, 0, none⟩ = some (.int .i64 0) := HBX.out.s.cell 0; have b1 : w2.cell? ⟨w.heap.size + 1 + 1, 1, none⟩ = some (.slice none 0 0) := HBX.out.s.cell 1; have b2 : w2.cell? ⟨w.heap.size + 1 + 1, 2, none⟩ = some (.slice none 0 0) := HBX.out.s.cell 2; have b3 : w2.cell? ⟨w.heap.size + 1 + 1, 3, none⟩ = some (.slice none 0 0) := HBX.out.s.cell 3; have b4 : w2.cell? ⟨w.heap.size + 1 + 1, 4, none⟩ = some (.int .i64 0) := HBX.out.s.cell 4; have b5 : w2.cell? ⟨w.heap.size + 1 + 1, 5, none⟩ = some (.bool false) := HBX.out.s.cell 5; have bf : ∀ i, w2.frozen? ⟨w.heap.size + 1 + 1, i, none⟩ = false := HBX.out.s.frozen; have r0 : w2.cell? ⟨w.heap.size + 1, 0, none⟩ = some (.int .i64 0) := HBX.out.r.cell 0; have r1 : w2.cell? ⟨w.heap.size + 1, 1, none⟩ = some (.slice none 0 0) := HBX.out.r.cell 1; have r2 : w2.cell? ⟨w.heap.size + 1, 2, none⟩ = some (.slice none 0 0) := HBX.out.r.cell 2; have r3 : w2.cell? ⟨w.heap.size + 1, 3, none⟩ = some (.slice none 0 0) := HBX.out.r.cell 3; have r4 : w2.cell? ⟨w.heap.size + 1, 4, none⟩ = some (.int .i64 0) := HBX.out.r.cell 4; have r5 : w2.cell? ⟨w.heap.size + 1, 5, none⟩ = some (.bool false) := HBX.out.r.cell 5; have rf : ∀ i, w2.frozen? ⟨w.heap.size + 1, i, none⟩ = false := HBX.out.r.frozen)
  refine bodyPost_ret (v := .agg #[.int .i64 E, .slice none 0 0, .slice none 0 0, .slice none 0 0, .int .i64 0, .bool false]) (by simp only [results, Try.results41]; go_simp) rfl ?_
  refine ⟨_, rfl, Said.code_at _ _ _, frame_dr (G := fun k => k = w.heap.size + 1 ∨ k = w.heap.size + 1 + 1) HWB.out HD2.out HT2.out ?_ ?_ HF.out (fun k hk => by have := HWS.out; rcases hk with rfl | rfl <;> omega)⟩
  · exact (((((((Touch.refl _ _).set (Or.inr rfl) _).set (Or.inl rfl) _).set (Or.inl rfl) _).set (Or.inl rfl) _).set (Or.inl rfl) _).set (Or.inl rfl) _).set (Or.inl rfl) _
  · simp only [size_set]

set_option maxRecDepth 100000 in
set_option maxHeartbeats 1000000 in
theorem plain_remove (p : Nat) (S : Drv) (F : Nat → Prop) (x : PStep) (L : SLay) (w : World) (hk : x.kind = 5) (hx : x.Fits) (hd : Dr w p S F) (hF : ∀ k, F k → k < w.heap.size) (hS : S.Small) :
    Calls Try.prog 41 #[.pointer (some ⟨p, 0, none⟩), .agg (stepCells x L)] w fun e w' =>
      ∃ u, e = .returned u ∧ SaidAt w' w.heap.size u (.code (S.remove x.nm).2) ∧ Dr w' p (S.remove x.nm).1 (grow F w w') ∧ Touch F w w' := by
  have HX := Lib.hid hx
  have HD := Lib.hid hd
  have HF := Lib.hid hF
  have HS := Lib.hid hS
  obtain ⟨E, hE⟩ : ∃ E, E = (S.remove x.nm).2 := ⟨_, rfl⟩
  have HE := Lib.hid hE
  rw [← HE.out]
  obtain ⟨T, hT⟩ : ∃ T, T = (S.remove x.nm).1 := ⟨_, rfl⟩
  have HT := Lib.hid hT
  rw [← HT.out]
  obtain ⟨W, hW⟩ : ∃ W, W = ((w.alloc (.cells (stepCells x L) 69)).alloc (.cells zeroSaid 41)).alloc (.cells zeroSaid 41) := ⟨_, rfl⟩
  have HWB : Hid (Below w.heap.size w W) := Lib.hid (by rw [hW]; exact (((Below.refl _ w).alloc (Nat.le_refl _) _).alloc (by simp) _).alloc (by simp; omega) _)
  have HBW : Hid (Box W w.heap.size) := Lib.hid (by
    rw [hW]
    constructor
    · have := Blk.new ((w.alloc (.cells (stepCells x L) 69)).alloc (.cells zeroSaid 41)) 41 zeroSaid
      simpa using this
    · have := Blk.new (w.alloc (.cells (stepCells x L) 69)) 41 zeroSaid
      have := this.alloc (.cells zeroSaid 41)
      simpa using this)
  have HXW : Hid (Blk W w.heap.size 69 (stepCells x L)) := Lib.hid (by rw [hW]; exact ((Blk.new _ _ _).alloc _).alloc _)
  have HWS : Hid (W.heap.size = w.heap.size + 3) := Lib.hid (by rw [hW]; simp)
  unfold stepCells zeroSaid at hW
  rw [hk] at hW
  unfold stepCells
  rw [hk]
  have HW := Lib.hid hW
  clear hk hx hd hF hS hE hT hW
  go_enter Try.func41, Try.ntmps41
  go_wp2_with (go_at_call 56; rw [← HW.out]; refine (remove_any p S F x.name W HX.out.name (HD.out.below HWB.out) HS.out).mono ?_; rintro e w2 ⟨rfl, hd2, ht2⟩; rw [← HE.out]; rw [← HT.out] at hd2; have HBX := Lib.hid (HBW.out.touch ht2 HF.out); have HD2 := Lib.hid hd2; have HT2 := Lib.hid ht2; clear hd2 ht2; have b0 : w2.cell? ⟨w.heap.size + 1 + 1, 0, none⟩ = some (.int .i64 0) := HBX.out.s.cell 0; have b1 : w2.cell? ⟨w.heap.size + 1 + 1, 1, none⟩ = some (.slice none 0 0) := HBX.out.s.cell 1; have b2 : w2.cell? ⟨w.heap.size + 1 + 1, 2, none⟩ = some (.slice none 0 0) := HBX.out.s.cell 2; have b3 : w2.cell? ⟨w.heap.size + 1 + 1, 3, none⟩ = some (.slice none 0 0) := HBX.out.s.cell 3; have b4 : w2.cell? ⟨w.heap.size + 1 + 1, 4, none⟩ = some (.int .i64 0) := HBX.out.s.cell 4; have b5 : w2.cell? ⟨w.heap.size + 1 + 1, 5, none⟩ = some (.bool false) := HBX.out.s.cell 5; have bf : ∀ i, w2.frozen? ⟨w.heap.size + 1 + 1, i, none⟩ = false := HBX.out.s.frozen; have r0 : w2.cell? ⟨w.heap.size + 1, 0, none⟩ = some (.int .i64 0) := HBX.out.r.cell 0; have r1 : w2.cell? ⟨w.heap.size + 1, 1, none⟩ = some (.slice none 0 0) := HBX.out.r.cell 1; have r2 : w2.cell? ⟨w.heap.size + 1, 2, none⟩ = some (.slice none 0 0) := HBX.out.r.cell 2; have r3 : w2.cell? ⟨w.heap.size + 1, 3, none⟩ = some (.slice none 0 0) := HBX.out.r.cell 3; have r4 : w2.cell? ⟨w.heap.size + 1, 4, none⟩ = some (.int .i64 0) := HBX.out.r.cell 4; have r5 : w2.cell? ⟨w.heap.size + 1, 5, none⟩ = some (.bool false) := HBX.out.r.cell 5; have rf : ∀ i, w2.frozen? ⟨w.heap.size + 1, i, none⟩ = false := HBX.out.r.frozen)
  refine bodyPost_ret (v := .agg #[.int .i64 E, .slice none 0 0, .slice none 0 0, .slice none 0 0, .int .i64 0, .bool false]) (by simp only [results, Try.results41]; go_simp) rfl ?_
  refine ⟨_, rfl, Said.code_at _ _ _, frame_dr (G := fun k => k = w.heap.size + 1 ∨ k = w.heap.size + 1 + 1) HWB.out HD2.out HT2.out ?_ ?_ HF.out (fun k hk => by have := HWS.out; rcases hk with rfl | rfl <;> omega)⟩
  · exact (((((((Touch.refl _ _).set (Or.inr rfl) _).set (Or.inl rfl) _).set (Or.inl rfl) _).set (Or.inl rfl) _).set (Or.inl rfl) _).set (Or.inl rfl) _).set (Or.inl rfl) _
  · simp only [size_set]

set_option maxRecDepth 100000 in
set_option maxHeartbeats 1000000 in
theorem plain_syncDir (p : Nat) (S : Drv) (F : Nat → Prop) (x : PStep) (L : SLay) (w : World) (hk : x.kind = 6) (hx : x.Fits) (hd : Dr w p S F) (hF : ∀ k, F k → k < w.heap.size) (hS : S.Small) :
    Calls Try.prog 41 #[.pointer (some ⟨p, 0, none⟩), .agg (stepCells x L)] w fun e w' =>
      ∃ u, e = .returned u ∧ SaidAt w' w.heap.size u (.code (((S.syncDir, (0 : Int)) : Drv × Int)).2) ∧ Dr w' p (((S.syncDir, (0 : Int)) : Drv × Int)).1 (grow F w w') ∧ Touch F w w' := by
  have HX := Lib.hid hx
  have HD := Lib.hid hd
  have HF := Lib.hid hF
  have HS := Lib.hid hS
  obtain ⟨E, hE⟩ : ∃ E, E = (((S.syncDir, (0 : Int)) : Drv × Int)).2 := ⟨_, rfl⟩
  have HE := Lib.hid hE
  rw [← HE.out]
  obtain ⟨T, hT⟩ : ∃ T, T = (((S.syncDir, (0 : Int)) : Drv × Int)).1 := ⟨_, rfl⟩
  have HT := Lib.hid hT
  rw [← HT.out]
  obtain ⟨W, hW⟩ : ∃ W, W = ((w.alloc (.cells (stepCells x L) 69)).alloc (.cells zeroSaid 41)).alloc (.cells zeroSaid 41) := ⟨_, rfl⟩
  have HWB : Hid (Below w.heap.size w W) := Lib.hid (by rw [hW]; exact (((Below.refl _ w).alloc (Nat.le_refl _) _).alloc (by simp) _).alloc (by simp; omega) _)
  have HBW : Hid (Box W w.heap.size) := Lib.hid (by
    rw [hW]
    constructor
    · have := Blk.new ((w.alloc (.cells (stepCells x L) 69)).alloc (.cells zeroSaid 41)) 41 zeroSaid
      simpa using this
    · have := Blk.new (w.alloc (.cells (stepCells x L) 69)) 41 zeroSaid
      have := this.alloc (.cells zeroSaid 41)
      simpa using this)
  have HXW : Hid (Blk W w.heap.size 69 (stepCells x L)) := Lib.hid (by rw [hW]; exact ((Blk.new _ _ _).alloc _).alloc _)
  have HWS : Hid (W.heap.size = w.heap.size + 3) := Lib.hid (by rw [hW]; simp)
  unfold stepCells zeroSaid at hW
  rw [hk] at hW
  unfold stepCells
  rw [hk]
  have HW := Lib.hid hW
  clear hk hx hd hF hS hE hT hW
  go_enter Try.func41, Try.ntmps41
  go_wp2_with (go_at_call 57; rw [← HW.out]; refine (syncDir_any p S F W (HD.out.below HWB.out)).mono ?_; rintro e w2 ⟨rfl, hd2, ht2⟩; rw [← HE.out]; rw [← HT.out] at hd2; have HBX := Lib.hid (HBW.out.touch ht2 HF.out); have HD2 := Lib.hid hd2; have HT2 := Lib.hid ht2; clear hd2 ht2; have b0 : w2.cell? ⟨w.heap.size + 1 + 1, 0, none⟩ = some (.int .i64 0) := HBX.out.s.cell 0; have b1 : w2.cell? ⟨w.heap.size + 1 + 1, 1, none⟩ = some (.slice none 0 0) := HBX.out.s.cell 1; have b2 : w2.cell? ⟨w.heap.size + 1 + 1, 2, none⟩ = some (.slice none 0 0) := HBX.out.s.cell 2; have b3 : w2.cell? ⟨w.heap.size + 1 + 1, 3, none⟩ = some (.slice none 0 0) := HBX.out.s.cell 3; have b4 : w2.cell? ⟨w.heap.size + 1 + 1, 4, none⟩ = some (.int .i64 0) := HBX.out.s.cell 4; have b5 : w2.cell? ⟨w.heap.size + 1 + 1, 5, none⟩ = some (.bool false) := HBX.out.s.cell 5; have bf : ∀ i, w2.frozen? ⟨w.heap.size + 1 + 1, i, none⟩ = false := HBX.out.s.frozen; have r0 : w2.cell? ⟨w.heap.size + 1, 0, none⟩ = some (.int .i64 0) := HBX.out.r.cell 0; have r1 : w2.cell? ⟨w.heap.size + 1, 1, none⟩ = some (.slice none 0 0) := HBX.out.r.cell 1; have r2 : w2.cell? ⟨w.heap.size + 1, 2, none⟩ = some (.slice none 0 0) := HBX.out.r.cell 2; have r3 : w2.cell? ⟨w.heap.size + 1, 3, none⟩ = some (.slice none 0 0) := HBX.out.r.cell 3; have r4 : w2.cell? ⟨w.heap.size + 1, 4, none⟩ = some (.int .i64 0) := HBX.out.r.cell 4; have r5 : w2.cell? ⟨w.heap.size + 1, 5, none⟩ = some (.bool false) := HBX.out.r.cell 5; have rf : ∀ i, w2.frozen? ⟨w.heap.size + 1, i, none⟩ = false := HBX.out.r.frozen)
  refine bodyPost_ret (v := .agg #[.int .i64 E, .slice none 0 0, .slice none 0 0, .slice none 0 0, .int .i64 0, .bool false]) (by simp only [results, Try.results41]; go_simp) rfl ?_
  refine ⟨_, rfl, Said.code_at _ _ _, frame_dr (G := fun k => k = w.heap.size + 1 ∨ k = w.heap.size + 1 + 1) HWB.out HD2.out HT2.out ?_ ?_ HF.out (fun k hk => by have := HWS.out; rcases hk with rfl | rfl <;> omega)⟩
  · exact (((((((Touch.refl _ _).set (Or.inr rfl) _).set (Or.inl rfl) _).set (Or.inl rfl) _).set (Or.inl rfl) _).set (Or.inl rfl) _).set (Or.inl rfl) _).set (Or.inl rfl) _
  · simp only [size_set]

set_option maxRecDepth 100000 in
set_option maxHeartbeats 1000000 in
theorem plain_read (p : Nat) (S : Drv) (F : Nat → Prop) (x : PStep) (L : SLay) (w : World) (hk : x.kind = 7) (hx : x.Fits) (hd : Dr w p S F) (hF : ∀ k, F k → k < w.heap.size) (hS : S.Small) :
    Calls Try.prog 41 #[.pointer (some ⟨p, 0, none⟩), .agg (stepCells x L)] w fun e w' =>
      ∃ u, e = .returned u ∧ SaidAt w' w.heap.size u { Said.none_ with data := (S.read x.nm).1, e := (S.read x.nm).2 } ∧ Dr w' p S (grow F w w') ∧ Touch F w w' := by
  have HX := Lib.hid hx
  have HD := Lib.hid hd
  have HF := Lib.hid hF
  have HS := Lib.hid hS
  obtain ⟨E, hE⟩ : ∃ E, E = (S.read x.nm).2 := ⟨_, rfl⟩
  have HE := Lib.hid hE
  rw [← HE.out]
  obtain ⟨bs, hbs⟩ : ∃ bs, bs = (S.read x.nm).1 := ⟨_, rfl⟩
  have HBS := Lib.hid hbs
  rw [← HBS.out]
  obtain ⟨m, hm⟩ : ∃ m, m = bs.length := ⟨_, rfl⟩
  have HM := Lib.hid hm
  obtain ⟨addr, hda⟩ := HD.out
  have HDA := Lib.hid hda
  obtain ⟨W, hW⟩ : ∃ W, W = ((w.alloc (.cells (stepCells x L) 69)).alloc (.cells zeroSaid 41)).alloc (.cells zeroSaid 41) := ⟨_, rfl⟩
  have HWB : Hid (Below w.heap.size w W) := Lib.hid (by rw [hW]; exact (((Below.refl _ w).alloc (Nat.le_refl _) _).alloc (by simp) _).alloc (by simp; omega) _)
  have HBW : Hid (Box W w.heap.size) := Lib.hid (by
    rw [hW]
    constructor
    · have := Blk.new ((w.alloc (.cells (stepCells x L) 69)).alloc (.cells zeroSaid 41)) 41 zeroSaid
      simpa using this
    · have := Blk.new (w.alloc (.cells (stepCells x L) 69)) 41 zeroSaid
      have := this.alloc (.cells zeroSaid 41)
      simpa using this)
  have HXW : Hid (Blk W w.heap.size 69 (stepCells x L)) := Lib.hid (by rw [hW]; exact ((Blk.new _ _ _).alloc _).alloc _)
  have HWS : Hid (W.heap.size = w.heap.size + 3) := Lib.hid (by rw [hW]; simp)
  unfold stepCells zeroSaid at hW
  rw [hk] at hW
  unfold stepCells
  rw [hk]
  have HW := Lib.hid hW
  clear hk hx hd hF hS hE hbs hm hda hW
  go_enter Try.func41, Try.ntmps41
  go_wp2_with (go_at_call 52; rw [← HW.out]; refine (read_any p S addr F x.name W HX.out.name (HDA.out.keep (Touch.of_below (F := fun _ => False) HWB.out) fun _ _ h => h) HS.out.len).mono ?_; rintro e w2 ⟨v, rfl, ho, hb⟩; rw [← HE.out]; rw [← HBS.out, ← HM.out] at ho; obtain ⟨a, c, rfl, _⟩ := own_shape ho; have HO := Lib.hid ho; have HB := Lib.hid hb; have HBX := Lib.hid (HBW.out.below hb); clear ho hb; have b0 : w2.cell? ⟨w.heap.size + 1 + 1, 0, none⟩ = some (.int .i64 0) := HBX.out.s.cell 0; have b1 : w2.cell? ⟨w.heap.size + 1 + 1, 1, none⟩ = some (.slice none 0 0) := HBX.out.s.cell 1; have b2 : w2.cell? ⟨w.heap.size + 1 + 1, 2, none⟩ = some (.slice none 0 0) := HBX.out.s.cell 2; have b3 : w2.cell? ⟨w.heap.size + 1 + 1, 3, none⟩ = some (.slice none 0 0) := HBX.out.s.cell 3; have b4 : w2.cell? ⟨w.heap.size + 1 + 1, 4, none⟩ = some (.int .i64 0) := HBX.out.s.cell 4; have b5 : w2.cell? ⟨w.heap.size + 1 + 1, 5, none⟩ = some (.bool false) := HBX.out.s.cell 5; have bf : ∀ i, w2.frozen? ⟨w.heap.size + 1 + 1, i, none⟩ = false := HBX.out.s.frozen; have r0 : w2.cell? ⟨w.heap.size + 1, 0, none⟩ = some (.int .i64 0) := HBX.out.r.cell 0; have r1 : w2.cell? ⟨w.heap.size + 1, 1, none⟩ = some (.slice none 0 0) := HBX.out.r.cell 1; have r2 : w2.cell? ⟨w.heap.size + 1, 2, none⟩ = some (.slice none 0 0) := HBX.out.r.cell 2; have r3 : w2.cell? ⟨w.heap.size + 1, 3, none⟩ = some (.slice none 0 0) := HBX.out.r.cell 3; have r4 : w2.cell? ⟨w.heap.size + 1, 4, none⟩ = some (.int .i64 0) := HBX.out.r.cell 4; have r5 : w2.cell? ⟨w.heap.size + 1, 5, none⟩ = some (.bool false) := HBX.out.r.cell 5; have rf : ∀ i, w2.frozen? ⟨w.heap.size + 1, i, none⟩ = false := HBX.out.r.frozen)
  refine bodyPost_ret (v := .agg #[.int .i64 E, .slice a m c, .slice none 0 0, .slice none 0 0, .int .i64 0, .bool false]) (by simp only [results, Try.results41]; go_simp) rfl ?_
  have GB : ∀ k, (k = w.heap.size + 1 ∨ k = w.heap.size + 1 + 1) → k < W.heap.size := fun k hk => by have := HWS.out; rcases hk with rfl | rfl <;> omega
  exact ⟨_, rfl, ⟨_, _, _, rfl, by show World.ownsRow _ _ _ _ _ bs.length _; rw [← HM.out]; exact ownsRow_base_a (row_touch (G := fun k => k = w.heap.size + 1 ∨ k = w.heap.size + 1 + 1) HO.out (by exact ((((((((Touch.refl _ _).set (Or.inr rfl) _).set (Or.inr rfl) _).set (Or.inl rfl) _).set (Or.inl rfl) _).set (Or.inl rfl) _).set (Or.inl rfl) _).set (Or.inl rfl) _).set (Or.inl rfl) _) GB) HWB.out.size, World.ownsRow_nil _ _ _ _, FilesAt.nil _ _⟩, frame_dr (G := fun k => k = w.heap.size + 1 ∨ k = w.heap.size + 1 + 1) HWB.out (dr_grow (HD.out.below HWB.out) HB.out |>.mono fun k h => h) (Touch.of_below HB.out) (by exact ((((((((Touch.refl _ _).set (Or.inr rfl) _).set (Or.inr rfl) _).set (Or.inl rfl) _).set (Or.inl rfl) _).set (Or.inl rfl) _).set (Or.inl rfl) _).set (Or.inl rfl) _).set (Or.inl rfl) _) (by simp only [size_set]) HF.out (fun k hk => by have := HWS.out; rcases hk with rfl | rfl <;> omega)⟩

set_option maxRecDepth 100000 in
set_option maxHeartbeats 1000000 in
theorem plain_list (p : Nat) (S : Drv) (F : Nat → Prop) (x : PStep) (L : SLay) (w : World) (hk : x.kind = 8) (hx : x.Fits) (hd : Dr w p S F) (hF : ∀ k, F k → k < w.heap.size) (hS : S.Small) :
    Calls Try.prog 41 #[.pointer (some ⟨p, 0, none⟩), .agg (stepCells x L)] w fun e w' =>
      ∃ u, e = .returned u ∧ SaidAt w' w.heap.size u { Said.none_ with names := dnames S.now, e := 0 } ∧ Dr w' p S (grow F w w') ∧ Touch F w w' := by
  have HX := Lib.hid hx
  have HD := Lib.hid hd
  have HF := Lib.hid hF
  have HS := Lib.hid hS
  obtain ⟨bs, hbs⟩ : ∃ bs, bs = dnames S.now := ⟨_, rfl⟩
  have HBS := Lib.hid hbs
  rw [← HBS.out]
  obtain ⟨m, hm⟩ : ∃ m, m = bs.length := ⟨_, rfl⟩
  have HM := Lib.hid hm
  obtain ⟨addr, hda⟩ := HD.out
  have HDA := Lib.hid hda
  obtain ⟨W, hW⟩ : ∃ W, W = ((w.alloc (.cells (stepCells x L) 69)).alloc (.cells zeroSaid 41)).alloc (.cells zeroSaid 41) := ⟨_, rfl⟩
  have HWB : Hid (Below w.heap.size w W) := Lib.hid (by rw [hW]; exact (((Below.refl _ w).alloc (Nat.le_refl _) _).alloc (by simp) _).alloc (by simp; omega) _)
  have HBW : Hid (Box W w.heap.size) := Lib.hid (by
    rw [hW]
    constructor
    · have := Blk.new ((w.alloc (.cells (stepCells x L) 69)).alloc (.cells zeroSaid 41)) 41 zeroSaid
      simpa using this
    · have := Blk.new (w.alloc (.cells (stepCells x L) 69)) 41 zeroSaid
      have := this.alloc (.cells zeroSaid 41)
      simpa using this)
  have HXW : Hid (Blk W w.heap.size 69 (stepCells x L)) := Lib.hid (by rw [hW]; exact ((Blk.new _ _ _).alloc _).alloc _)
  have HWS : Hid (W.heap.size = w.heap.size + 3) := Lib.hid (by rw [hW]; simp)
  unfold stepCells zeroSaid at hW
  rw [hk] at hW
  unfold stepCells
  rw [hk]
  have HW := Lib.hid hW
  clear hk hx hd hF hS hbs hm hda hW
  go_enter Try.func41, Try.ntmps41
  go_wp2_with (go_at_call 45; rw [← HW.out]; refine (list_any p S addr F W (HDA.out.keep (Touch.of_below (F := fun _ => False) HWB.out) fun _ _ h => h) (by have := HS.out.now; omega)).mono ?_; rintro e w2 ⟨v, rfl, ho, hb⟩; rw [← HBS.out, ← HM.out] at ho; obtain ⟨a, c, rfl, _⟩ := own_shape ho; have HO := Lib.hid ho; have HB := Lib.hid hb; have HBX := Lib.hid (HBW.out.below hb); clear ho hb; have b0 : w2.cell? ⟨w.heap.size + 1 + 1, 0, none⟩ = some (.int .i64 0) := HBX.out.s.cell 0; have b1 : w2.cell? ⟨w.heap.size + 1 + 1, 1, none⟩ = some (.slice none 0 0) := HBX.out.s.cell 1; have b2 : w2.cell? ⟨w.heap.size + 1 + 1, 2, none⟩ = some (.slice none 0 0) := HBX.out.s.cell 2; have b3 : w2.cell? ⟨w.heap.size + 1 + 1, 3, none⟩ = some (.slice none 0 0) := HBX.out.s.cell 3; have b4 : w2.cell? ⟨w.heap.size + 1 + 1, 4, none⟩ = some (.int .i64 0) := HBX.out.s.cell 4; have b5 : w2.cell? ⟨w.heap.size + 1 + 1, 5, none⟩ = some (.bool false) := HBX.out.s.cell 5; have bf : ∀ i, w2.frozen? ⟨w.heap.size + 1 + 1, i, none⟩ = false := HBX.out.s.frozen; have r0 : w2.cell? ⟨w.heap.size + 1, 0, none⟩ = some (.int .i64 0) := HBX.out.r.cell 0; have r1 : w2.cell? ⟨w.heap.size + 1, 1, none⟩ = some (.slice none 0 0) := HBX.out.r.cell 1; have r2 : w2.cell? ⟨w.heap.size + 1, 2, none⟩ = some (.slice none 0 0) := HBX.out.r.cell 2; have r3 : w2.cell? ⟨w.heap.size + 1, 3, none⟩ = some (.slice none 0 0) := HBX.out.r.cell 3; have r4 : w2.cell? ⟨w.heap.size + 1, 4, none⟩ = some (.int .i64 0) := HBX.out.r.cell 4; have r5 : w2.cell? ⟨w.heap.size + 1, 5, none⟩ = some (.bool false) := HBX.out.r.cell 5; have rf : ∀ i, w2.frozen? ⟨w.heap.size + 1, i, none⟩ = false := HBX.out.r.frozen)
  refine bodyPost_ret (v := .agg #[.int .i64 0, .slice none 0 0, .slice a m c, .slice none 0 0, .int .i64 0, .bool false]) (by simp only [results, Try.results41]; go_simp) rfl ?_
  have GB : ∀ k, (k = w.heap.size + 1 ∨ k = w.heap.size + 1 + 1) → k < W.heap.size := fun k hk => by have := HWS.out; rcases hk with rfl | rfl <;> omega
  exact ⟨_, rfl, ⟨_, _, _, rfl, World.ownsRow_nil _ _ _ _, by show World.ownsRow _ _ _ _ _ bs.length _; rw [← HM.out]; exact ownsRow_base_a (row_touch (G := fun k => k = w.heap.size + 1 ∨ k = w.heap.size + 1 + 1) HO.out (by exact ((((((((Touch.refl _ _).set (Or.inr rfl) _).set (Or.inr rfl) _).set (Or.inl rfl) _).set (Or.inl rfl) _).set (Or.inl rfl) _).set (Or.inl rfl) _).set (Or.inl rfl) _).set (Or.inl rfl) _) GB) HWB.out.size, FilesAt.nil _ _⟩, frame_dr (G := fun k => k = w.heap.size + 1 ∨ k = w.heap.size + 1 + 1) HWB.out (dr_grow (HD.out.below HWB.out) HB.out |>.mono fun k h => h) (Touch.of_below HB.out) (by exact ((((((((Touch.refl _ _).set (Or.inr rfl) _).set (Or.inr rfl) _).set (Or.inl rfl) _).set (Or.inl rfl) _).set (Or.inl rfl) _).set (Or.inl rfl) _).set (Or.inl rfl) _).set (Or.inl rfl) _) (by simp only [size_set]) HF.out (fun k hk => by have := HWS.out; rcases hk with rfl | rfl <;> omega)⟩

set_option maxRecDepth 100000 in
set_option maxHeartbeats 1000000 in
theorem plain_append (p : Nat) (S : Drv) (F : Nat → Prop) (x : PStep) (L : SLay) (w : World) (hk : x.kind = 2) (hx : x.Fits) (hd : Dr w p S F) (hF : ∀ k, F k → k < w.heap.size) (hS : S.Small) (B : Nat) (hB : B ≤ w.heap.size) (hxa : StepAt w B L x) :
    Calls Try.prog 41 #[.pointer (some ⟨p, 0, none⟩), .agg (stepCells x L)] w fun e w' =>
      ∃ u, e = .returned u ∧ SaidAt w' w.heap.size u (.code (S.append x.nm x.data).2) ∧ Dr w' p (S.append x.nm x.data).1 (grow F w w') ∧ Touch F w w' := by
  have HX := Lib.hid hx
  have HD := Lib.hid hd
  have HF := Lib.hid hF
  have HS := Lib.hid hS
  obtain ⟨E, hE⟩ : ∃ E, E = (S.append x.nm x.data).2 := ⟨_, rfl⟩
  have HE := Lib.hid hE
  rw [← HE.out]
  obtain ⟨T, hT⟩ : ∃ T, T = (S.append x.nm x.data).1 := ⟨_, rfl⟩
  have HT := Lib.hid hT
  rw [← HT.out]
  have HXA := Lib.hid hxa
  obtain ⟨m, hm⟩ : ∃ m, m = x.data.length := ⟨_, rfl⟩
  have HM := Lib.hid hm
  obtain ⟨W, hW⟩ : ∃ W, W = ((w.alloc (.cells (stepCells x L) 69)).alloc (.cells zeroSaid 41)).alloc (.cells zeroSaid 41) := ⟨_, rfl⟩
  have HWB : Hid (Below w.heap.size w W) := Lib.hid (by rw [hW]; exact (((Below.refl _ w).alloc (Nat.le_refl _) _).alloc (by simp) _).alloc (by simp; omega) _)
  have HBW : Hid (Box W w.heap.size) := Lib.hid (by
    rw [hW]
    constructor
    · have := Blk.new ((w.alloc (.cells (stepCells x L) 69)).alloc (.cells zeroSaid 41)) 41 zeroSaid
      simpa using this
    · have := Blk.new (w.alloc (.cells (stepCells x L) 69)) 41 zeroSaid
      have := this.alloc (.cells zeroSaid 41)
      simpa using this)
  have HXW : Hid (Blk W w.heap.size 69 (stepCells x L)) := Lib.hid (by rw [hW]; exact ((Blk.new _ _ _).alloc _).alloc _)
  have HWS : Hid (W.heap.size = w.heap.size + 3) := Lib.hid (by rw [hW]; simp)
  unfold stepCells zeroSaid at hW
  rw [hk] at hW
  unfold stepCells
  rw [hk]
  have HW := Lib.hid hW
  rw [← HM.out] at HW
  rw [← HM.out]
  clear hk hx hd hF hS hE hT hm hxa hW
  go_enter Try.func41, Try.ntmps41
  go_wp2_with fail
  go_region_held3 (fun w' => w'.cell? ⟨w.heap.size, 1, none⟩ = some (.string x.name) ∧ w'.cell? ⟨w.heap.size, 3, none⟩ = some (.slice L.pd m L.cd))
    (first | go_keep | (go_split_ands; refine ⟨?_, ?_⟩ <;> (rw [World.cell?_setCell_other _ _ _ _ (by simp)]; assumption)))
    (first
      | (go_at_call 18; rw [← HW.out]; refine (twin_any L.pd m L.cd x.data W.drew B (by rw [HM.out]; exact (HXA.out.data.below (HWB.out.mono hB)).drew) (by rw [HM.out]; exact HX.out.data)).mono ?_; rintro e w1 ⟨v, rfl, ho, hb⟩; have hb' : Below W.heap.size W w1 := below_of_drew hb; obtain ⟨a1, c1, rfl, _⟩ := own_shape ho; have k1 : w1.cell? ⟨w.heap.size, 1, none⟩ = some (.string x.name) := (hb'.cell HXW.out.lt).trans (HXW.out.cell 1); have k3 : w1.cell? ⟨w.heap.size, 3, none⟩ = some (.slice L.pd m L.cd) := (by rw [HM.out]; exact (hb'.cell HXW.out.lt).trans (HXW.out.cell 3)); have HBX1 := Lib.hid (HBW.out.below hb'); have HO1 : Hid (w1.ownsRow W.heap.size 5 1 (.slice a1 m c1) m (x.data.map B8)) := Lib.hid ho; have HB1 := Lib.hid hb'; clear ho hb hb')
      | (go_at_call 42; rw [HM.out]; refine (append_any p S F x.name w1 HX.out.name ((HD.out.below HWB.out).below HB1.out) HS.out a1 c1 x.data (by rw [← HM.out]; exact Reads.of_own HO1.out) HX.out.data).mono ?_; rintro e w2 ⟨rfl, hd2, ht2⟩; rw [← HE.out]; rw [← HT.out] at hd2; have k1 : w2.cell? ⟨w.heap.size, 1, none⟩ = some (.string x.name) := World.cell?_of_block (ht2.block _ (Nat.lt_of_lt_of_le HXW.out.lt HB1.out.size) (fun hf => absurd (HF.out _ hf) (Nat.lt_irrefl _))) |>.trans k1; have k3 : w2.cell? ⟨w.heap.size, 3, none⟩ = some (.slice L.pd m L.cd) := World.cell?_of_block (ht2.block _ (Nat.lt_of_lt_of_le HXW.out.lt HB1.out.size) (fun hf => absurd (HF.out _ hf) (Nat.lt_irrefl _))) |>.trans k3; have HBX := Lib.hid (HBX1.out.touch ht2 HF.out); have HD2 := Lib.hid hd2; have HT2 := Lib.hid ht2; clear hd2 ht2; have b0 : w2.cell? ⟨w.heap.size + 1 + 1, 0, none⟩ = some (.int .i64 0) := HBX.out.s.cell 0; have b1 : w2.cell? ⟨w.heap.size + 1 + 1, 1, none⟩ = some (.slice none 0 0) := HBX.out.s.cell 1; have b2 : w2.cell? ⟨w.heap.size + 1 + 1, 2, none⟩ = some (.slice none 0 0) := HBX.out.s.cell 2; have b3 : w2.cell? ⟨w.heap.size + 1 + 1, 3, none⟩ = some (.slice none 0 0) := HBX.out.s.cell 3; have b4 : w2.cell? ⟨w.heap.size + 1 + 1, 4, none⟩ = some (.int .i64 0) := HBX.out.s.cell 4; have b5 : w2.cell? ⟨w.heap.size + 1 + 1, 5, none⟩ = some (.bool false) := HBX.out.s.cell 5; have bf : ∀ i, w2.frozen? ⟨w.heap.size + 1 + 1, i, none⟩ = false := HBX.out.s.frozen; have r0 : w2.cell? ⟨w.heap.size + 1, 0, none⟩ = some (.int .i64 0) := HBX.out.r.cell 0; have r1 : w2.cell? ⟨w.heap.size + 1, 1, none⟩ = some (.slice none 0 0) := HBX.out.r.cell 1; have r2 : w2.cell? ⟨w.heap.size + 1, 2, none⟩ = some (.slice none 0 0) := HBX.out.r.cell 2; have r3 : w2.cell? ⟨w.heap.size + 1, 3, none⟩ = some (.slice none 0 0) := HBX.out.r.cell 3; have r4 : w2.cell? ⟨w.heap.size + 1, 4, none⟩ = some (.int .i64 0) := HBX.out.r.cell 4; have r5 : w2.cell? ⟨w.heap.size + 1, 5, none⟩ = some (.bool false) := HBX.out.r.cell 5; have rf : ∀ i, w2.frozen? ⟨w.heap.size + 1, i, none⟩ = false := HBX.out.r.frozen))
  go_wp2
  refine bodyPost_ret (v := .agg #[.int .i64 E, .slice none 0 0, .slice none 0 0, .slice none 0 0, .int .i64 0, .bool false]) (by simp only [results, Try.results41]; go_simp) rfl ?_
  refine ⟨_, rfl, Said.code_at _ _ _, frame_dr (G := fun k => k = w.heap.size + 1 ∨ k = w.heap.size + 1 + 1) (HWB.out.trans (HB1.out.mono HWB.out.size)) HD2.out HT2.out ?_ ?_ HF.out (fun k hk => by have := HWS.out; have := HB1.out.size; rcases hk with rfl | rfl <;> omega)⟩
  · exact (((((((Touch.refl _ _).set (Or.inr rfl) _).set (Or.inl rfl) _).set (Or.inl rfl) _).set (Or.inl rfl) _).set (Or.inl rfl) _).set (Or.inl rfl) _).set (Or.inl rfl) _
  · simp only [size_set]
end Go.Proofs.Ytdmcjomcbhdcbaa
