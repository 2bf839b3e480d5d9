/- The law's helper 'hurt', at all other kinds. -/
import Derived.Test.YtdmcjomcbhdcbaaLr
namespace Go.Proofs.Ytdmcjomcbhdcbaa
open Go.RowKit Go.Maps

theorem StepAt.below' {w w' : World} {B : Nat} {L : SLay} {x : PStep} (h : StepAt w B L x) (hb : Below B w w') : StepAt w' B L x := h.far fun k hk => hb.block k hk
theorem SaidAt.base {w : World} {base base' : Nat} {v : Value} {x : Said} (h : SaidAt w base v x) (hb : base' ≤ base) : SaidAt w base' v x := by
  obtain ⟨d, n, f, e, h1, h2, h3⟩ := h
  exact ⟨d, n, f, e, ownsRow_base_a h1 hb, ownsRow_base_a h2 hb, h3.base hb⟩

set_option maxRecDepth 100000 in
set_option maxHeartbeats 1000000 in
theorem hurt_other (q p : Nat) (X : Wnd) (S : Drv) (F : Nat → Prop) (x : PStep) (L : SLay) (w : World) (hk : ¬(1 ≤ x.kind ∧ x.kind ≤ 16)) (hx : x.Fits) (hd : WD w q p X S F) (hF : ∀ k, F k → k < w.heap.size) (hX : X.Ok) (hS : S.Small) (N : Nat) (hI : S.Inv N) (hN : N ≤ 2199023254000) (B : Nat) (hB : B ≤ w.heap.size) (hxa : StepAt w B L x) :
    Calls Try.prog 37 #[.pointer (some ⟨q, 0, none⟩), .agg (stepCells x L)] w fun e w' =>
      ∃ u, e = .returned u ∧ SaidAt w' w.heap.size u (plain25 S x).2 ∧ WD w' q p X (plain25 S x).1 (grow F w w') ∧ Touch F w w' := by
  have HOK := Lib.hid hX
  have n1 : x.kind ≠ 1 := by omega
  have n2 : x.kind ≠ 2 := by omega
  have n3 : x.kind ≠ 3 := by omega
  have n4 : x.kind ≠ 4 := by omega
  have n5 : x.kind ≠ 5 := by omega
  have n6 : x.kind ≠ 6 := by omega
  have n7 : x.kind ≠ 7 := by omega
  have n8 : x.kind ≠ 8 := by omega
  have n9 : x.kind ≠ 9 := by omega
  have n10 : x.kind ≠ 10 := by omega
  have n11 : x.kind ≠ 11 := by omega
  have n12 : x.kind ≠ 12 := by omega
  have n13 : x.kind ≠ 13 := by omega
  have n14 : x.kind ≠ 14 := by omega
  have n15 : x.kind ≠ 15 := by omega
  have n16 : x.kind ≠ 16 := by omega
  have h8 : ¬(1 ≤ x.kind ∧ x.kind ≤ 8) := by omega
  have HXA := Lib.hid hxa
  have HI := Lib.hid hI
  have H8 := Lib.hid h8
  have HX := Lib.hid hx
  have HD := Lib.hid hd
  have HF := Lib.hid hF
  have HS := Lib.hid hS
  obtain ⟨W, hW⟩ : ∃ W, W = ((w.alloc (.cells (stepCells x L) 69)).alloc (.cells zeroSaid 41)).alloc (.cells zeroSaid 41) := ⟨_, rfl⟩
  have HWB : Hid (Below w.heap.size w W) := Lib.hid (by rw [hW]; exact (((Below.refl _ w).alloc (Nat.le_refl _) _).alloc (by simp) _).alloc (by simp; omega) _)
  have HBW : Hid (Box W w.heap.size) := Lib.hid (by
    rw [hW]
    constructor
    · have := Blk.new ((w.alloc (.cells (stepCells x L) 69)).alloc (.cells zeroSaid 41)) 41 zeroSaid
      simpa using this
    · have := Blk.new (w.alloc (.cells (stepCells x L) 69)) 41 zeroSaid
      have := this.alloc (.cells zeroSaid 41)
      simpa using this)
  have HXW : Hid (Blk W w.heap.size 69 (stepCells x L)) := Lib.hid (by rw [hW]; exact ((Blk.new _ _ _).alloc _).alloc _)
  have HWS : Hid (W.heap.size = w.heap.size + 3) := Lib.hid (by rw [hW]; simp)
  unfold stepCells zeroSaid at hW
  unfold stepCells
  have HW := Lib.hid hW
  obtain ⟨Z, hZ⟩ : ∃ Z, Z = (plain25 S x).2 := ⟨_, rfl⟩
  have HZ := Lib.hid hZ
  rw [← HZ.out]
  obtain ⟨T, hT⟩ : ∃ T, T = (plain25 S x).1 := ⟨_, rfl⟩
  have HT := Lib.hid hT
  rw [← HT.out]
  clear hk hx hd hF hS hX hI hxa h8 hZ hT hW
  go_enter Try.func37, Try.ntmps37
  go_wp2_with fail
  rw [← HW.out]
  refine (promoted_any q p X S N F x L W B H8.out HX.out (HD.out.below HWB.out) (fun k hk => Nat.lt_of_lt_of_le (HF.out k hk) HWB.out.size) HI.out hN (Nat.le_trans hB HWB.out.size) (HXA.out.below' (HWB.out.mono hB))).mono ?_
  rintro e w2 ⟨u, rfl, hs2, hd2, ht2⟩
  rw [← HZ.out] at hs2
  rw [← HT.out] at hd2
  have HBX := Lib.hid (HBW.out.touch ht2 HF.out)
  have HD2 := Lib.hid hd2
  have HT2 := Lib.hid ht2
  have HS2 := Lib.hid hs2
  obtain ⟨dv, mv, fv, rfl, r1, r2, r3⟩ := hs2
  obtain ⟨da, dc, rfl, _⟩ := own_shape r1
  obtain ⟨ma, mc, rfl, _⟩ := own_shape r2
  obtain ⟨fa, fc, rfl, _⟩ := r3.shape
  obtain ⟨E, hE⟩ : ∃ E, E = Z.e := ⟨_, rfl⟩
  obtain ⟨NN, hNN⟩ : ∃ E, E = Z.n := ⟨_, rfl⟩
  obtain ⟨YY, hYY⟩ : ∃ E, E = Z.yes := ⟨_, rfl⟩
  obtain ⟨dn, hdn⟩ : ∃ E, E = Z.data.length := ⟨_, rfl⟩
  obtain ⟨mn, hmn⟩ : ∃ E, E = Z.names.length := ⟨_, rfl⟩
  obtain ⟨fn, hfn⟩ : ∃ E, E = Z.files.length := ⟨_, rfl⟩
  rw [← hE, ← hNN, ← hYY, ← hdn, ← hmn, ← hfn] at HS2 ⊢
  clear hd2 ht2 r1 r2 r3 hE hNN hYY hdn hmn hfn
  have b0 : w2.cell? ⟨w.heap.size + 1 + 1, 0, none⟩ = some (.int .i64 0) := HBX.out.s.cell 0
  have b1 : w2.cell? ⟨w.heap.size + 1 + 1, 1, none⟩ = some (.slice none 0 0) := HBX.out.s.cell 1
  have b2 : w2.cell? ⟨w.heap.size + 1 + 1, 2, none⟩ = some (.slice none 0 0) := HBX.out.s.cell 2
  have b3 : w2.cell? ⟨w.heap.size + 1 + 1, 3, none⟩ = some (.slice none 0 0) := HBX.out.s.cell 3
  have b4 : w2.cell? ⟨w.heap.size + 1 + 1, 4, none⟩ = some (.int .i64 0) := HBX.out.s.cell 4
  have b5 : w2.cell? ⟨w.heap.size + 1 + 1, 5, none⟩ = some (.bool false) := HBX.out.s.cell 5
  have bf : ∀ i, w2.frozen? ⟨w.heap.size + 1 + 1, i, none⟩ = false := HBX.out.s.frozen
  have r0 : w2.cell? ⟨w.heap.size + 1, 0, none⟩ = some (.int .i64 0) := HBX.out.r.cell 0
  have r1 : w2.cell? ⟨w.heap.size + 1, 1, none⟩ = some (.slice none 0 0) := HBX.out.r.cell 1
  have r2 : w2.cell? ⟨w.heap.size + 1, 2, none⟩ = some (.slice none 0 0) := HBX.out.r.cell 2
  have r3 : w2.cell? ⟨w.heap.size + 1, 3, none⟩ = some (.slice none 0 0) := HBX.out.r.cell 3
  have r4 : w2.cell? ⟨w.heap.size + 1, 4, none⟩ = some (.int .i64 0) := HBX.out.r.cell 4
  have r5 : w2.cell? ⟨w.heap.size + 1, 5, none⟩ = some (.bool false) := HBX.out.r.cell 5
  have rf : ∀ i, w2.frozen? ⟨w.heap.size + 1, i, none⟩ = false := HBX.out.r.frozen
  go_wp2
  refine bodyPost_ret (v := .agg #[.int .i64 E, .slice da dn dc, .slice ma mn mc, .slice fa fn fc, .int .i64 NN, .bool YY]) (by simp only [results, Try.results37]; go_simp) rfl ?_
  have GB : ∀ k, (k = w.heap.size + 1 ∨ k = w.heap.size + 1 + 1) → k < W.heap.size := fun k hk => by have := HWS.out; rcases hk with rfl | rfl <;> omega
  exact ⟨_, rfl, (HS2.out.touch (G := fun k => k = w.heap.size + 1 ∨ k = w.heap.size + 1 + 1) (by exact (((((((((((((Touch.refl _ _).set (Or.inr rfl) _).set (Or.inr rfl) _).set (Or.inr rfl) _).set (Or.inr rfl) _).set (Or.inr rfl) _).set (Or.inr rfl) _).set (Or.inl rfl) _).set (Or.inl rfl) _).set (Or.inl rfl) _).set (Or.inl rfl) _).set (Or.inl rfl) _).set (Or.inl rfl) _)) GB).base HWB.out.size, frame_wd (G := fun k => k = w.heap.size + 1 ∨ k = w.heap.size + 1 + 1) HWB.out HD2.out HT2.out (by exact (((((((((((((Touch.refl _ _).set (Or.inr rfl) _).set (Or.inr rfl) _).set (Or.inr rfl) _).set (Or.inr rfl) _).set (Or.inr rfl) _).set (Or.inr rfl) _).set (Or.inl rfl) _).set (Or.inl rfl) _).set (Or.inl rfl) _).set (Or.inl rfl) _).set (Or.inl rfl) _).set (Or.inl rfl) _)) (by simp only [size_set]) HF.out (fun k hk => by have := HWS.out; rcases hk with rfl | rfl <;> omega)⟩
end Go.Proofs.Ytdmcjomcbhdcbaa
