/- A row of turns among a law's arguments, opened. -/
import Derived.Test.YtdiaihpilniikaaGreatM20
import Derived.Test.YtdiaihpilniikaaGreatZhJ
namespace Go.Proofs.YtdiaihpilniikaaGreat
open Go.ChangeShapes Go.WideShapes Go.ChangeAt Go.RowKit Go.Maps

theorem len8 {α : Type} {l : List α} (h : l.length = 8) : ∃ a b c d e f g h, l = [a, b, c, d, e, f, g, h] := by
  match l, h with
  | [a, b, c, d, e, f, g, h], _ => exact ⟨a, b, c, d, e, f, g, h, rfl⟩
theorem len21 {α : Type} {l : List α} (h : l.length = 21) : ∃ c0 c1 c2 c3 c4 c5 c6 c7 c8 c9 c10 c11 c12 c13 c14 c15 c16 c17 c18 c19 c20, l = [c0, c1, c2, c3, c4, c5, c6, c7, c8, c9, c10, c11, c12, c13, c14, c15, c16, c17, c18, c19, c20] := by
  match l, h with
  | [c0, c1, c2, c3, c4, c5, c6, c7, c8, c9, c10, c11, c12, c13, c14, c15, c16, c17, c18, c19, c20], _ => exact ⟨c0, c1, c2, c3, c4, c5, c6, c7, c8, c9, c10, c11, c12, c13, c14, c15, c16, c17, c18, c19, c20, rfl⟩
section
variable {H : Type} {enc : TypeId × Value → H} {w : World} {base : Nat} {spare : Nat → Bool} {held : Bool}
theorem dec_int (n : Nat) (V : Value) (d : DataW H × List MemPlace) (h : DataW.trod enc Tryz.prog w base spare held n 3 [V] = some d) : ∃ b, V = intV b := by
  obtain ⟨b, hz, _⟩ := DataW.trod_int Tryz.underlying3 h
  simp only [List.cons.injEq, and_true] at hz
  exact ⟨b, hz⟩


theorem open_turn {fuel : Nat} {cs : List Value} {y : DataW H × List MemPlace} (h : DataW.trod enc Tryz.prog w base spare held fuel 61 cs = some y) (hall : ∀ k ∈ y.1.weights Tryz.prog 61, k ≤ reachBytes) :
    ∃ x L, cs = turnCells x L ∧ TurnAt w w.heap.size L x := by
  obtain ⟨xs, n, _, hy, hlen, hxl, hf⟩ := DataW.trod_struct Tryz.underlying61 h
  have hc : Tryz.prog.cellsOf 61 = 21 := by kernel_rfl
  rw [hc] at hlen
  obtain ⟨c0, c1, c2, c3, c4, c5, c6, c7, c8, c9, c10, c11, c12, c13, c14, c15, c16, c17, c18, c19, c20, rfl⟩ := len21 hlen
  have k3 : Tryz.prog.cellsOf 3 = 1 := by kernel_rfl
  have k4 : Tryz.prog.cellsOf 4 = 1 := by kernel_rfl
  have kl : Tryz.prog.cellsOf 27 = 13 := by kernel_rfl
  have k47 : Tryz.prog.cellsOf 28 = 1 := by kernel_rfl
  have k67 : Tryz.prog.cellsOf 59 = 2 := by kernel_rfl
  have k64 : Tryz.prog.cellsOf 56 = 1 := by kernel_rfl
  have k65 : Tryz.prog.cellsOf 57 = 1 := by kernel_rfl
  have b4 : Tryz.prog.bytesOf 4 = 1 := by kernel_rfl
  have b3 : Tryz.prog.bytesOf 3 = 8 := by kernel_rfl
  obtain ⟨y0, y1, y2, y3, y4, y5, y6, y7, rfl⟩ := len8 (hxl.trans (by decide))
  have g0 : DataW.trod enc Tryz.prog w base spare held n 27 (List.take (Tryz.prog.cellsOf 27) [c0, c1, c2, c3, c4, c5, c6, c7, c8, c9, c10, c11, c12, c13, c14, c15, c16, c17, c18, c19, c20]) = some y0 := hf 0 _ rfl
  have g1 : DataW.trod enc Tryz.prog w base spare held n 28 (List.take (Tryz.prog.cellsOf 28) [c13, c14, c15, c16, c17, c18, c19, c20]) = some y1 := hf 1 _ rfl
  have g2 : DataW.trod enc Tryz.prog w base spare held n 4 (List.take (Tryz.prog.cellsOf 4) [c14, c15, c16, c17, c18, c19, c20]) = some y2 := hf 2 _ rfl
  have g3 : DataW.trod enc Tryz.prog w base spare held n 4 (List.take (Tryz.prog.cellsOf 4) [c15, c16, c17, c18, c19, c20]) = some y3 := hf 3 _ rfl
  have g4 : DataW.trod enc Tryz.prog w base spare held n 3 (List.take (Tryz.prog.cellsOf 3) [c16, c17, c18, c19, c20]) = some y4 := hf 4 _ rfl
  have g5 : DataW.trod enc Tryz.prog w base spare held n 3 (List.take (Tryz.prog.cellsOf 3) [c17, c18, c19, c20]) = some y5 := hf 5 _ rfl
  have g6 : DataW.trod enc Tryz.prog w base spare held n 4 (List.take (Tryz.prog.cellsOf 4) [c18, c19, c20]) = some y6 := hf 6 _ rfl
  have g7 : DataW.trod enc Tryz.prog w base spare held n 59 (List.take (Tryz.prog.cellsOf 59) [c19, c20]) = some y7 := hf 7 _ rfl
  rw [kl] at g0
  rw [k47] at g1
  rw [k4] at g2
  rw [k4] at g3
  rw [k3] at g4
  rw [k3] at g5
  rw [k4] at g6
  rw [k67] at g7
  have hw : ∀ (j : Nat) (t : TypeId) (d : DataW H), ([27, 28, 4, 4, 3, 3, 4, 59] : List TypeId)[j]? = some t → ([y0.1, y1.1, y2.1, y3.1, y4.1, y5.1, y6.1, y7.1] : List (DataW H))[j]? = some d → ∀ k ∈ d.weights Tryz.prog t, k ≤ reachBytes := fun j t d ht hd k hk =>
    hall k (by rw [hy]; simp only [DataW.weights, Tryz.underlying61]; exact DataW.weights_mem_each ht hd k hk)
  obtain ⟨l, e0, hl⟩ := open_lab g0
  obtain ⟨pp, np, cp, lp, e1, hlp, hcp, hbp, hrp⟩ := open_plan g1 (hw 1 _ _ rfl rfl)
  obtain ⟨a2, e2, _⟩ := DataW.trod_bool Tryz.underlying4 g2
  obtain ⟨a3, e3, _⟩ := DataW.trod_bool Tryz.underlying4 g3
  obtain ⟨a4, e4, _⟩ := DataW.trod_int Tryz.underlying3 g4
  obtain ⟨a5, e5, _⟩ := DataW.trod_int Tryz.underlying3 g5
  obtain ⟨a6, e6, _⟩ := DataW.trod_bool Tryz.underlying4 g6
  obtain ⟨zs, n9, _, hy9, hlen9, hzl, hf9⟩ := DataW.trod_struct Tryz.underlying59 g7
  obtain ⟨z0, z1, rfl⟩ := len2 (hzl.trans (by decide))
  have f0 : DataW.trod enc Tryz.prog w base spare held n9 56 (List.take (Tryz.prog.cellsOf 56) [c19, c20]) = some z0 := hf9 0 _ rfl
  have f1 : DataW.trod enc Tryz.prog w base spare held n9 57 (List.take (Tryz.prog.cellsOf 57) [c20]) = some z1 := hf9 1 _ rfl
  rw [k64] at f0
  rw [k65] at f1
  have hw9 := hw 7 _ _ rfl rfl
  have hwf : ∀ (j : Nat) (t : TypeId) (d : DataW H), ([56, 57] : List TypeId)[j]? = some t → ([z0.1, z1.1] : List (DataW H))[j]? = some d → ∀ k ∈ d.weights Tryz.prog t, k ≤ reachBytes := fun j t d ht hd k hk =>
    hw9 k (by rw [hy9]; simp only [DataW.weights, Tryz.underlying59]; exact DataW.weights_mem_each ht hd k hk)
  obtain ⟨pr, nr, cr, lr, e9, hlr, hcr, hbr, hrr⟩ := open_row boolV Tryz.underlying56 k4 dec_bool f0 (hwf 0 _ _ rfl rfl)
  obtain ⟨pc, nc, cc, lc, e10, hlc, hcc, hbc, hrc⟩ := open_row intV Tryz.underlying57 k3 dec_int f1 (hwf 1 _ _ rfl rfl)
  have e0' : [c0, c1, c2, c3, c4, c5, c6, c7, c8, c9, c10, c11, c12] = (labCells l).toList := e0
  simp only [List.take, List.cons.injEq, and_true] at e2 e3 e4 e5 e6
  rw [b4] at hbr
  rw [b3] at hbc
  unfold reachBytes at hbp hbr hbc
  refine ⟨⟨l, lp, a2, a3, a4, a5, a6, lr, lc⟩, ⟨pp, cp, pr, cr, pc, cc⟩, ?_, ?_⟩
  · unfold turnCells
    rw [← e0']
    subst e2 e3 e4 e5 e6
    simp only [List.cons_append, List.nil_append, hlp, hlr, hlc, ← e1, ← e9, ← e10]
  · exact { wf := hl, plan := by rw [hlp]; exact hrp, dirs := by rw [hlr]; exact hrr, cuts := by rw [hlc]; exact hrc, lp := by rw [hlp]; omega, ld := by rw [hlr]; omega, lc := by rw [hlc]; omega }

/-- The turns, opened. -/
theorem open_turns {fuel : Nat} {v : Value} {y : DataW H × List MemPlace} (h : DataW.trod enc Tryz.prog w base spare held fuel 53 [v] = some y) (hall : ∀ k ∈ y.1.weights Tryz.prog 53, k ≤ reachBytes) :
    ∃ A n c xs, v = .slice A n c ∧ n ≤ c ∧ n * 152 ≤ 140737488351232 ∧ TurnsAt w w.heap.size A n xs := by
  have hc : Tryz.prog.cellsOf 61 = 21 := by kernel_rfl
  have hb : Tryz.prog.bytesOf 61 = 152 := by kernel_rfl
  rcases Go.Deep.open_slice Tryz.underlying53 h with ⟨hcs, _⟩ | ⟨ad, len, cap, m, n, D, Pl, hcs, _, hl, hm, hmm, hx, hcell⟩
  · simp only [List.cons.injEq, and_true] at hcs
    exact ⟨none, 0, 0, [], hcs, Nat.le_refl _, by omega, rfl, fun k x hx => by simp at hx⟩
  · simp only [List.cons.injEq, and_true] at hcs
    have hml : len ≤ m := by rw [hmm]; split <;> omega
    rw [hc] at hcell
    have hwt : ∀ k ∈ y.1.weights Tryz.prog 53, k ≤ reachBytes := hall
    rw [hx] at hwt
    simp only [DataW.weights, Tryz.underlying53] at hwt
    have hall2 : ∀ i, i < len → ∀ k ∈ (D i).weights Tryz.prog 61, k ≤ reachBytes := fun i hi k hk =>
      hwt k (List.mem_cons_of_mem _ (List.mem_append_left _ (mem_weightsAll (d := D i) (List.mem_map.2 ⟨i, List.mem_range.2 hi, rfl⟩) k hk)))
    have hne : len = 0 ∨ ∃ b off, ad = ⟨b, off, none⟩ := by
      rcases Nat.eq_zero_or_pos len with h0 | h0
      · exact .inl h0
      · refine .inr ?_
        obtain ⟨cs', h1, _⟩ := hcell 0 (by omega)
        obtain ⟨_, hl2, h3⟩ := World.cells?_some h1
        have e0 := h3 0 (by omega)
        rw [Go.Deep.add_add] at e0
        obtain ⟨b, off, spot⟩ := ad
        have hs : (⟨b, off, spot⟩ : Addr).add (0 * 21 + 0) = ⟨b, off, spot⟩ := by unfold Addr.add; simp
        rw [hs, List.getElem?_eq_getElem (by omega)] at e0
        cases spot with
        | none => exact ⟨b, off, rfl⟩
        | some s =>
          unfold World.cell? at e0
          split at e0 <;> simp_all
    obtain ⟨B, hB⟩ : ∃ B : Nat → PTurn × TLay, ∀ i, i < len → (∀ j u, (turnCells (B i).1 (B i).2)[j]? = some u → w.cell? (ad.add (i * 21 + j)) = some u) ∧ TurnAt w w.heap.size (B i).2 (B i).1 := by
      have : Inhabited (PTurn × TLay) := ⟨⟨⟨⟨[], 0, 0, 0, 0, 0⟩, [], false, false, 0, 0, false, [], []⟩, ⟨none, 0, none, 0, none, 0⟩⟩⟩
      refine Go.Deep.choose_lt (p := fun i (b : PTurn × TLay) => (∀ j u, (turnCells b.1 b.2)[j]? = some u → w.cell? (ad.add (i * 21 + j)) = some u) ∧ TurnAt w w.heap.size b.2 b.1) fun i hi => ?_
      obtain ⟨cs', h1, h2⟩ := hcell i (by omega)
      obtain ⟨x, L, rfl, h4⟩ := open_turn h2 (hall2 i hi)
      obtain ⟨_, hl2, h3⟩ := World.cells?_some h1
      refine ⟨(x, L), fun j u hu => ?_, h4⟩
      have hj : j < 21 := by
        rcases Nat.lt_or_ge j 21 with h | h
        · exact h
        · rw [List.getElem?_eq_none (by rw [hl2]; exact h)] at hu; cases hu
      have := h3 j hj
      rw [Go.Deep.add_add] at this
      rw [this, hu]
    refine ⟨some ad, len, cap, (List.range len).map fun i => (B i).1, hcs, hl, ?_, by simp, fun k x hx2 => ?_⟩
    · have := hwt _ List.mem_cons_self
      simp only [List.length_map, List.length_range, hb] at this
      unfold reachBytes at this
      have : len * 152 ≤ (len + (m - len)) * 152 := Nat.mul_le_mul_right _ (by omega)
      omega
    · have hk : k < len := by
        rcases Nat.lt_or_ge k len with h | h
        · exact h
        · rw [List.getElem?_eq_none (by simp; exact h)] at hx2; cases hx2
      simp [hk] at hx2
      subst hx2
      obtain ⟨q1, q2⟩ := hB k hk
      rcases hne with h0 | ⟨b, off, rfl⟩
      · omega
      · refine ⟨b, off, (B k).2, rfl, ?_, fun j u hu => ?_, q2⟩
        · have := q1 0 _ (List.getElem?_eq_getElem (by rw [turnCells_length _ _ q2.wf.st]; decide))
          have := World.block_lt_of_cell? w _ this
          rwa [block_of_add] at this
        · have := q1 j u hu
          rwa [add_plain, ← Nat.add_assoc] at this
end
end Go.Proofs.YtdiaihpilniikaaGreat
