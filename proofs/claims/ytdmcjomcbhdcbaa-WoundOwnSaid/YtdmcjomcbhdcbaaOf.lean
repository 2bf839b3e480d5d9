/- WoundOwn: the lists that were answered are apart. -/
import Derived.Test.YtdmcjomcbhdcbaaOe
import Derived.Test.YtdmcjomcbhdcbaaOb
namespace Go.Proofs.Ytdmcjomcbhdcbaa
open Go.RowKit Go.Maps
namespace Ow
theorem get3 {α : Type} {a b c r : α} {j : Nat} (h : [a, b, c][j]? = some r) : (j = 0 ∧ r = a) ∨ (j = 1 ∧ r = b) ∨ (j = 2 ∧ r = c) := by
  match j, h with
  | 0, h => exact .inl ⟨rfl, (Option.some.inj h).symm⟩
  | 1, h => exact .inr (.inl ⟨rfl, (Option.some.inj h).symm⟩)
  | 2, h => exact .inr (.inr ⟨rfl, (Option.some.inj h).symm⟩)
  | j + 3, h => simp at h
theorem get2 {α : Type} {a b r : α} {j : Nat} (h : [a, b][j]? = some r) : (j = 0 ∧ r = a) ∨ (j = 1 ∧ r = b) := by
  match j, h with
  | 0, h => exact .inl ⟨rfl, (Option.some.inj h).symm⟩
  | 1, h => exact .inr ⟨rfl, (Option.some.inj h).symm⟩
  | j + 2, h => simp at h
theorem apart_here (w : World) (c : Nat → Nat) (a1 a2 a3 l1 l2 : Option Addr) (n m c1 c2 c3 k1 k2 : Nat) (x1 x2 x3 y1 y2 : List Value)
    (h1 : RowK w c 11 5 (.slice a1 n c1) n x1) (h2 : RowK w c 12 5 (.slice a2 m c2) m x2) (h3 : RowK w c 13 5 (.slice a3 n c3) n x3)
    (h4 : RowK w c 14 9 (.slice l1 2 k1) 2 y1) (h5 : RowK w c 15 9 (.slice l2 2 k2) 2 y2) (hn : n ≤ 900) (hm : m ≤ 900) :
    Calls Try.prog 21 #[.slice (some ⟨w.heap.size, 0, none⟩) 3 3, .slice (some ⟨w.heap.size + 1, 0, none⟩) 2 2]
      ((w.alloc (.cells #[.slice a1 n c1, .slice a2 m c2, .slice a3 n c3] 22)).alloc (.cells #[.slice l1 2 k1, .slice l2 2 k2] 35)) fun e w' =>
      e = .returned (.bool true) ∧ Touch (fun k => 11 ≤ c k ∧ c k ≤ 15) w w' := by
  obtain ⟨W, hW⟩ : ∃ W, W = (w.alloc (.cells #[.slice a1 n c1, .slice a2 m c2, .slice a3 n c3] 22)).alloc (.cells #[.slice l1 2 k1, .slice l2 2 k2] 35) := ⟨_, rfl⟩
  have hb : Below w.heap.size w W := by rw [hW]; exact ((Below.refl _ w).alloc (Nat.le_refl _) _).alloc (by simp) _
  have hs : W.heap.size = w.heap.size + 2 := by rw [hW]; simp
  obtain ⟨c', hst, hnew⟩ := step_new 77 8 (c := c) hb
  have r1 := row_step h1 hst (by decide)
  have r2 := row_step h2 hst (by decide)
  have r3 := row_step h3 hst (by decide)
  have r4 := row_step h4 hst (by decide)
  have r5 := row_step h5 hst (by decide)
  have hB1 : Blk W w.heap.size 22 #[.slice a1 n c1, .slice a2 m c2, .slice a3 n c3] := by rw [hW]; exact (Blk.new w _ _).alloc _
  have hB2 : Blk W (w.heap.size + 1) 35 #[.slice l1 2 k1, .slice l2 2 k2] := by rw [hW]; exact blk_last _ _ _ _ (by rw [alloc_size])
  have hin1 : ∀ b, InF [(a1, n, c1), (a2, m, c2), (a3, n, c3)] b → c' b = 11 ∨ c' b = 12 ∨ c' b = 13 := by
    rintro b ⟨j, r, hr, hb⟩
    rcases get3 hr with ⟨_, rfl⟩ | ⟨_, rfl⟩ | ⟨_, rfl⟩
    · exact .inl (r1.2 b hb)
    · exact .inr (.inl (r2.2 b hb))
    · exact .inr (.inr (r3.2 b hb))
  have hin2 : ∀ b, InF [(l1, 2, k1), (l2, 2, k2)] b → c' b = 14 ∨ c' b = 15 := by
    rintro b ⟨j, r, hr, hb⟩
    rcases get2 hr with ⟨_, rfl⟩ | ⟨_, rfl⟩
    · exact .inl (r4.2 b hb)
    · exact .inr (r5.2 b hb)
  rw [← hW]
  have hap := apart_any [(a1, n, c1), (a2, m, c2), (a3, n, c3)] w.heap.size 3 (fun b => c' b - 11) W (by show 3 ≤ 100; decide)
    (fun r hr => by
      obtain ⟨j, hj⟩ := List.getElem?_of_mem hr
      rcases get3 hj with ⟨_, rfl⟩ | ⟨_, rfl⟩ | ⟨_, rfl⟩
      · show n ≤ _; omega
      · show m ≤ _; omega
      · show n ≤ _; omega) hB1
    (fun j r hr => by
      rcases get3 hr with ⟨rfl, rfl⟩ | ⟨rfl, rfl⟩ | ⟨rfl, rfl⟩
      · exact ⟨_, recol (i := 11) r1⟩
      · exact ⟨_, recol (i := 11) r2⟩
      · exact ⟨_, recol (i := 11) r3⟩) (.slice (some ⟨w.heap.size + 1, 0, none⟩) 2 2) (InF [(l1, 2, k1), (l2, 2, k2)])
    (fun V hV => apartNames_any [(l1, 2, k1), (l2, 2, k2)] (w.heap.size + 1) 2 (fun b => c' b - 14) V (by show 2 ≤ 100; decide)
      (fun r hr => by
        obtain ⟨j, hj⟩ := List.getElem?_of_mem hr
        rcases get2 hj with ⟨_, rfl⟩ | ⟨_, rfl⟩
        · show 2 ≤ _; omega
        · show 2 ≤ _; omega)
      (hB2.touch hV fun hf => by
        have h8 : c' (w.heap.size + 1) = 8 := hnew _ (by omega)
        rcases hin1 _ hf with h | h | h <;> rw [h8] at h <;> omega)
      (fun j r hr => by
        have keep : ∀ {k : Nat} {e : TypeId} {v : Value} {q : Nat} {xs : List Value}, RowK W c' k e v q xs → 14 ≤ k → RowK V c' k e v q xs := fun h hk =>
          h.keep (fun b hb => hV.block b (h.1.lt b hb).2 fun hf => by
            have := h.2 b hb
            rcases hin1 _ hf with h | h | h <;> omega) fun _ _ => rfl
        rcases get2 hr with ⟨rfl, rfl⟩ | ⟨rfl, rfl⟩
        · exact ⟨_, recol (i := 14) (keep r4 (by decide))⟩
        · exact ⟨_, recol (i := 14) (keep r5 (by decide))⟩))
  refine hap.mono ?_
  rintro e w' ⟨he, ht⟩
  refine ⟨he, (Touch.of_below hb).then ht fun i hi hf => ?_⟩
  have hc : c' i = c i := hst.same i hi
  rcases hf with hf | hf
  · rcases hin1 i hf with h | h | h <;> omega
  · rcases hin2 i hf with h | h <;> omega
theorem own_names (w : World) : (w.alloc (.cells #[.string ⟨#[97]⟩, .string ⟨#[98]⟩] 9)).ownsRow 0 9 1 (.slice (some ⟨w.heap.size, 0, none⟩) 2 2) 2 ([[97], [98]].map strV) :=
  ⟨rfl, .inr ⟨_, 2, _, rfl, Nat.zero_le _, Blk.new w _ _, Nat.le_refl _, by decide, rfl, rfl⟩⟩
theorem reads_plan1 (w : World) (k : Int) : Reads (w.alloc (.cells #[.int .i64 k, .int .i64 1, .int .i64 99, .int .i64 1] 46)) (w.heap.size + 1) 2 (some ⟨w.heap.size, 0, none⟩) 1 (planCells [(k, 1)]) :=
  ⟨rfl, fun _ => ⟨_, rfl, Nat.lt_succ_self _, fun j u hu => by
    have hb := Blk.new w 46 #[.int .i64 k, .int .i64 1, .int .i64 99, .int .i64 1]
    rw [add_plain, Nat.zero_add]
    match j, hu with
    | 0, hu => exact (hb.cell 0).trans hu
    | 1, hu => exact (hb.cell 1).trans hu
    | j + 2, hu => simp [planCells] at hu⟩⟩
theorem Led.wdb {w0 w : World} {c : Nat → Nat} {q p : Nat} {X : Wnd} {S : Drv} (hl : Led w0 w c) (hw : WDc w c q p X S) : WDb w w0.heap.size q p X S :=
  WD.mono hw fun k hk => ⟨by
    rcases Nat.lt_or_ge k w0.heap.size with h1 | h1
    · have := hl.old k h1; rw [hk.1] at this; cases this
    · exact h1, hk.2⟩
/-- The wound is armed with one fault. -/
theorem arm_here {w0 w : World} {c : Nat → Nat} {q p : Nat} {S : Drv} (hl : Led w0 w c) (hw : WDc w c q p (kz 13) S) (k : Nat) :
    Calls Try.prog 22 #[.pointer (some ⟨q, 0, none⟩), .slice (some ⟨w.heap.size, 0, none⟩) 1 2]
      (w.alloc (.cells #[.int .i64 k, .int .i64 1, .int .i64 99, .int .i64 1] 46)) fun e w' =>
      e = .returned (.tuple #[]) ∧ Blk w' w.heap.size 46 #[.int .i64 k, .int .i64 1, .int .i64 99, .int .i64 1] ∧ ∃ c', Led w0 w' c' ∧ WDc w' c' q p (kA k 0) S ∧ c' w.heap.size = 20 := by
  obtain ⟨W, hW⟩ : ∃ W, W = w.alloc (.cells #[.int .i64 k, .int .i64 1, .int .i64 99, .int .i64 1] 46) := ⟨_, rfl⟩
  have hb : Below w.heap.size w W := by rw [hW]; exact (Below.refl _ w).alloc (Nat.le_refl _) _
  have hs : W.heap.size = w.heap.size + 1 := by rw [hW]; simp
  obtain ⟨cp, hst, hnew⟩ := step_new 77 20 (c := c) hb
  have hB : Blk W w.heap.size 46 #[.int .i64 k, .int .i64 1, .int .i64 99, .int .i64 1] := by rw [hW]; exact Blk.new w _ _
  have h20 : cp w.heap.size = 20 := hnew _ (Nat.le_refl _)
  have hr : Reads W W.heap.size 2 (some ⟨w.heap.size, 0, none⟩) 1 (planCells [((k : Int), 1)]) := by
    have := reads_plan1 w (k : Int)
    rw [← hW] at this
    rw [hs]; exact this
  rw [← hW]
  refine (warm_any q p (kz 13) S _ (some ⟨w.heap.size, 0, none⟩) 1 2 [((k : Int), 1)] W (hw.step hst (by decide)) hr (fun _ ad e hf => by
    have := Option.some.inj e
    subst this
    have h0 : cp w.heap.size = 0 := hf.1
    rw [h20] at h0; cases h0) (by omega)).mono ?_
  rintro e w' ⟨he, hd, ht⟩
  rw [zarm] at hd
  obtain ⟨c', hs2, hw2⟩ := step_call hd ht
  exact ⟨he, hB.touch ht (fun hf => absurd (hf.1.symm.trans h20) (by decide)), c', (hl.step hst (by decide)).step hs2 (by decide), hw2, (hs2.same _ (by omega)).trans h20⟩
end Ow
end Go.Proofs.Ytdmcjomcbhdcbaa
