/- A script among a law's arguments, opened: each step's cells, its slices, its bounds. -/
import Derived.Test.YtdmcjomcbhdcbaaLk
import Derived.Test.YtdmcjomcbhdcbaaRows
import Derived.Deep.Slices
import Derived.Deep.Fields
import Derived.ChangeArms
import Derived.SizedLaws
namespace Go.Proofs.Ytdmcjomcbhdcbaa
open Go.RowKit Go.Maps Go.ChangeShapes Go.WideShapes

section
variable {H : Type} {enc : TypeId × Value → H} {P : Program} {w : World} {base : Nat} {spare : Nat → Bool} {held : Bool}

theorem len2 {α : Type} {l : List α} (h : l.length = 2) : ∃ a b, l = [a, b] := by
  match l, h with
  | [a, b], _ => exact ⟨a, b, rfl⟩
theorem len10 {α : Type} {l : List α} (h : l.length = 10) : ∃ c0 c1 c2 c3 c4 c5 c6 c7 c8 c9, l = [c0, c1, c2, c3, c4, c5, c6, c7, c8, c9] := by
  match l, h with
  | [c0, c1, c2, c3, c4, c5, c6, c7, c8, c9], _ => exact ⟨c0, c1, c2, c3, c4, c5, c6, c7, c8, c9, rfl⟩
theorem len11 {α : Type} {l : List α} (h : l.length = 11) : ∃ c0 c1 c2 c3 c4 c5 c6 c7 c8 c9 c10, l = [c0, c1, c2, c3, c4, c5, c6, c7, c8, c9, c10] := by
  match l, h with
  | [c0, c1, c2, c3, c4, c5, c6, c7, c8, c9, c10], _ => exact ⟨c0, c1, c2, c3, c4, c5, c6, c7, c8, c9, c10, rfl⟩

theorem mem_weightsAll {e : TypeId} {d : DataW H} : ∀ {l : List (DataW H)}, d ∈ l → ∀ n ∈ d.weights P e, n ∈ DataW.weightsAll P e l
  | x :: l, h, n, hn => by
    simp only [DataW.weightsAll, List.mem_append]
    rcases List.mem_cons.1 h with rfl | h
    · exact .inl hn
    · exact .inr (mem_weightsAll h n hn)

/-- A slice of one-cell elements, opened as a list. -/
theorem open_row {α : Type} [Inhabited α] (f : α → Value) {t e : TypeId} {fuel : Nat} {v : Value} {x : DataW H × List MemPlace} (ht : P.underlying t = some (.slice e)) (hc : P.cellsOf e = 1)
    (hdec : ∀ n V d, DataW.trod enc P w base spare held n e [V] = some d → ∃ a, V = f a) (h : DataW.trod enc P w base spare held fuel t [v] = some x) (hall : ∀ k ∈ x.1.weights P t, k ≤ reachBytes) :
    ∃ A n c l, v = .slice A n c ∧ List.length l = n ∧ n ≤ c ∧ n * P.bytesOf e ≤ reachBytes ∧ Reads w w.heap.size 1 A n (l.map f) := by
  rcases Go.Deep.open_slice1 ht hc h with ⟨hcs, _⟩ | ⟨ad, len, cap, m, n, V, D, Pl, hcs, _, hl, hm, hmm, hx, hcell⟩
  · simp only [List.cons.injEq, and_true] at hcs
    exact ⟨none, 0, 0, [], hcs, rfl, Nat.le_refl _, by omega, Reads.none_⟩
  · simp only [List.cons.injEq, and_true] at hcs
    have hml : len ≤ m := by rw [hmm]; split <;> omega
    obtain ⟨B, hB⟩ : ∃ B : Nat → α, ∀ i, i < len → V i = f (B i) := Go.Deep.choose_lt (p := fun i b => V i = f b) fun i hi => by
      obtain ⟨_, htr⟩ := hcell i (by omega)
      exact hdec _ _ _ htr
    refine ⟨some ad, len, cap, (List.range len).map B, hcs, by simp, hl, ?_, by simp, fun hn => ⟨ad, rfl, ?_, fun j u hu => ?_⟩⟩
    · have := hall ((((List.range len).map D).length + ((List.range (m - len)).map fun j => D (len + j)).length) * P.bytesOf e) (by rw [hx]; simp [DataW.weights, ht])
      simp only [List.length_map, List.length_range] at this
      exact Nat.le_trans (Nat.mul_le_mul_right _ (by omega)) this
    · have h0 := (hcell 0 (by omega)).1
      have := World.block_lt_of_cell? w _ h0
      rwa [block_of_add] at this
    · have hj : j < len := by
        rcases Nat.lt_or_ge j len with h | h
        · exact h
        · rw [List.getElem?_eq_none (by simp; exact h)] at hu; cases hu
      rw [(hcell j (by omega)).1, hB j hj]
      simp [hj] at hu
      rw [hu]
end

section
variable {H : Type} {enc : TypeId × Value → H} {w : World} {base : Nat} {spare : Nat → Bool} {held : Bool}
theorem dec_byte (n : Nat) (V : Value) (d : DataW H × List MemPlace) (h : DataW.trod enc Try.prog w base spare held n 5 [V] = some d) : ∃ b, V = B8 b := by
  obtain ⟨z, hz, _, hwf⟩ := DataW.trod_int Try.underlying5 h
  simp only [List.cons.injEq, and_true] at hz
  simp only [Lit.wf, Bool.and_eq_true, decide_eq_true_eq] at hwf
  have h1 : (0 : Int) ≤ z := hwf.1
  have h2 : z ≤ 255 := hwf.2
  refine ⟨UInt8.ofNat z.toNat, ?_⟩
  rw [hz]
  unfold B8
  congr 1
  rw [UInt8.toNat_ofNat']
  omega
theorem dec_bool (n : Nat) (V : Value) (d : DataW H × List MemPlace) (h : DataW.trod enc Try.prog w base spare held n 4 [V] = some d) : ∃ b, V = boolV b := by
  obtain ⟨b, hz, _⟩ := DataW.trod_bool Try.underlying4 h
  simp only [List.cons.injEq, and_true] at hz
  exact ⟨b, hz⟩
theorem dec_int (n : Nat) (V : Value) (d : DataW H × List MemPlace) (h : DataW.trod enc Try.prog w base spare held n 3 [V] = some d) : ∃ b, V = intV b := by
  obtain ⟨b, hz, _⟩ := DataW.trod_int Try.underlying3 h
  simp only [List.cons.injEq, and_true] at hz
  exact ⟨b, hz⟩

theorem open_fault {fuel : Nat} {cs : List Value} {x : DataW H × List MemPlace} (h : DataW.trod enc Try.prog w base spare held fuel 46 cs = some x) : ∃ f : Int × Int, cs = [.int .i64 f.1, .int .i64 f.2] := by
  obtain ⟨xs, n, _, _, hlen, hxl, hf⟩ := DataW.trod_struct Try.underlying46 h
  have hc : Try.prog.cellsOf 46 = 2 := by kernel_rfl
  rw [hc] at hlen
  obtain ⟨c0, c1, rfl⟩ := len2 hlen
  have h3 : Try.prog.cellsOf 3 = 1 := by kernel_rfl
  obtain ⟨y0, y1, rfl⟩ := len2 (hxl.trans (by decide))
  have g0 : DataW.trod enc Try.prog w base spare held n 3 (List.take (Try.prog.cellsOf 3) [c0, c1]) = some y0 := hf 0 _ rfl
  have g1 : DataW.trod enc Try.prog w base spare held n 3 (List.take (Try.prog.cellsOf 3) [c1]) = some y1 := hf 1 _ rfl
  rw [h3] at g0 g1
  obtain ⟨a, ha, _⟩ := DataW.trod_int Try.underlying3 g0
  obtain ⟨b, hb, _⟩ := DataW.trod_int Try.underlying3 g1
  simp at ha hb
  exact ⟨(a, b), by rw [ha, hb]⟩

theorem open_plan {fuel : Nat} {v : Value} {x : DataW H × List MemPlace} (h : DataW.trod enc Try.prog w base spare held fuel 47 [v] = some x) (hall : ∀ k ∈ x.1.weights Try.prog 47, k ≤ reachBytes) :
    ∃ A n c l, v = .slice A n c ∧ List.length l = n ∧ n ≤ c ∧ n * 16 ≤ reachBytes ∧ Reads w w.heap.size 2 A n (planCells l) := by
  have hc : Try.prog.cellsOf 46 = 2 := by kernel_rfl
  have hb : Try.prog.bytesOf 46 = 16 := by kernel_rfl
  rcases Go.Deep.open_slice Try.underlying47 h with ⟨hcs, _⟩ | ⟨ad, len, cap, m, n, D, Pl, hcs, _, hl, hm, hmm, hx, hcell⟩
  · simp only [List.cons.injEq, and_true] at hcs
    exact ⟨none, 0, 0, [], hcs, rfl, Nat.le_refl _, by omega, Reads.none_⟩
  · simp only [List.cons.injEq, and_true] at hcs
    have hml : len ≤ m := by rw [hmm]; split <;> omega
    rw [hc] at hcell
    obtain ⟨B, hB⟩ : ∃ B : Nat → Int × Int, ∀ i, i < len → w.cell? (ad.add (i * 2)) = some (.int .i64 (B i).1) ∧ w.cell? (ad.add (i * 2 + 1)) = some (.int .i64 (B i).2) :=
      Go.Deep.choose_lt (p := fun i (b : Int × Int) => w.cell? (ad.add (i * 2)) = some (.int .i64 b.1) ∧ w.cell? (ad.add (i * 2 + 1)) = some (.int .i64 b.2)) fun i hi => by
        obtain ⟨cs', h1, h2⟩ := hcell i (by omega)
        obtain ⟨f, rfl⟩ := open_fault h2
        obtain ⟨_, _, h3⟩ := World.cells?_some h1
        have e0 := h3 0 (by omega)
        have e1 := h3 1 (by omega)
        rw [Go.Deep.add_add] at e0 e1
        exact ⟨f, e0, e1⟩
    have hpl : ∀ k, (planCells ((List.range k).map B)).length = k * 2 := fun k => by rw [planCells_length]; simp
    refine ⟨some ad, len, cap, (List.range len).map B, hcs, by simp, hl, ?_, hpl len, fun hn => ⟨ad, rfl, ?_, fun j u hu => ?_⟩⟩
    · have := hall ((((List.range len).map D).length + ((List.range (m - len)).map fun j => D (len + j)).length) * Try.prog.bytesOf 46) (by rw [hx]; simp [DataW.weights, Try.underlying47])
      simp only [List.length_map, List.length_range, hb] at this
      exact Nat.le_trans (Nat.mul_le_mul_right _ (by omega)) this
    · have h0 := (hB 0 (by omega)).1
      have := World.block_lt_of_cell? w _ h0
      rwa [block_of_add] at this
    · have hj : j < len * 2 := by
        rcases Nat.lt_or_ge j (len * 2) with h | h
        · exact h
        · rw [List.getElem?_eq_none (by rw [hpl]; exact h)] at hu; cases hu
      have hk : j / 2 < len := by omega
      have hg : ((List.range len).map B)[j / 2]? = some (B (j / 2)) := by simp [hk]
      obtain ⟨p0, p1⟩ := plan_get _ _ _ hg
      obtain ⟨q0, q1⟩ := hB _ hk
      rcases Nat.mod_two_eq_zero_or_one j with h | h
      · have e : j = j / 2 * 2 := by omega
        rw [e] at hu ⊢
        rw [p0] at hu; rw [q0, hu]
      · have e : j = j / 2 * 2 + 1 := by omega
        rw [e] at hu ⊢
        rw [p1] at hu; rw [q1, hu]

/-- A step, opened. -/
theorem open_step {fuel : Nat} {cs : List Value} {y : DataW H × List MemPlace} (h : DataW.trod enc Try.prog w base spare held fuel 69 cs = some y) (hall : ∀ k ∈ y.1.weights Try.prog 69, k ≤ reachBytes) :
    ∃ x L, cs = (stepCells x L).toList ∧ StepAt w w.heap.size L x ∧ x.Fits := by
  obtain ⟨xs, n, _, hy, hlen, hxl, hf⟩ := DataW.trod_struct Try.underlying69 h
  have hc : Try.prog.cellsOf 69 = 11 := by kernel_rfl
  rw [hc] at hlen
  obtain ⟨c0, c1, c2, c3, c4, c5, c6, c7, c8, c9, c10, rfl⟩ := len11 hlen
  have k3 : Try.prog.cellsOf 3 = 1 := by kernel_rfl
  have k9 : Try.prog.cellsOf 9 = 1 := by kernel_rfl
  have k4 : Try.prog.cellsOf 4 = 1 := by kernel_rfl
  have k22 : Try.prog.cellsOf 22 = 1 := by kernel_rfl
  have k47 : Try.prog.cellsOf 47 = 1 := by kernel_rfl
  have k67 : Try.prog.cellsOf 67 = 2 := by kernel_rfl
  have k64 : Try.prog.cellsOf 64 = 1 := by kernel_rfl
  have k65 : Try.prog.cellsOf 65 = 1 := by kernel_rfl
  have b5 : Try.prog.bytesOf 5 = 1 := by kernel_rfl
  have b4 : Try.prog.bytesOf 4 = 1 := by kernel_rfl
  have b3 : Try.prog.bytesOf 3 = 8 := by kernel_rfl
  have k5 : Try.prog.cellsOf 5 = 1 := by kernel_rfl
  obtain ⟨y0, y1, y2, y3, y4, y5, y6, y7, y8, y9, rfl⟩ := len10 (hxl.trans (by decide))
  have g0 : DataW.trod enc Try.prog w base spare held n 3 (List.take (Try.prog.cellsOf 3) [c0, c1, c2, c3, c4, c5, c6, c7, c8, c9, c10]) = some y0 := hf 0 _ rfl
  have g1 : DataW.trod enc Try.prog w base spare held n 9 (List.take (Try.prog.cellsOf 9) [c1, c2, c3, c4, c5, c6, c7, c8, c9, c10]) = some y1 := hf 1 _ rfl
  have g2 : DataW.trod enc Try.prog w base spare held n 9 (List.take (Try.prog.cellsOf 9) [c2, c3, c4, c5, c6, c7, c8, c9, c10]) = some y2 := hf 2 _ rfl
  have g3 : DataW.trod enc Try.prog w base spare held n 22 (List.take (Try.prog.cellsOf 22) [c3, c4, c5, c6, c7, c8, c9, c10]) = some y3 := hf 3 _ rfl
  have g4 : DataW.trod enc Try.prog w base spare held n 3 (List.take (Try.prog.cellsOf 3) [c4, c5, c6, c7, c8, c9, c10]) = some y4 := hf 4 _ rfl
  have g5 : DataW.trod enc Try.prog w base spare held n 3 (List.take (Try.prog.cellsOf 3) [c5, c6, c7, c8, c9, c10]) = some y5 := hf 5 _ rfl
  have g6 : DataW.trod enc Try.prog w base spare held n 3 (List.take (Try.prog.cellsOf 3) [c6, c7, c8, c9, c10]) = some y6 := hf 6 _ rfl
  have g7 : DataW.trod enc Try.prog w base spare held n 4 (List.take (Try.prog.cellsOf 4) [c7, c8, c9, c10]) = some y7 := hf 7 _ rfl
  have g8 : DataW.trod enc Try.prog w base spare held n 47 (List.take (Try.prog.cellsOf 47) [c8, c9, c10]) = some y8 := hf 8 _ rfl
  have g9 : DataW.trod enc Try.prog w base spare held n 67 (List.take (Try.prog.cellsOf 67) [c9, c10]) = some y9 := hf 9 _ rfl
  rw [k3] at g0
  rw [k9] at g1
  rw [k9] at g2
  rw [k22] at g3
  rw [k3] at g4
  rw [k3] at g5
  rw [k3] at g6
  rw [k4] at g7
  rw [k47] at g8
  rw [k67] at g9
  have hw : ∀ (j : Nat) (t : TypeId) (d : DataW H), ([3, 9, 9, 22, 3, 3, 3, 4, 47, 67] : List TypeId)[j]? = some t → ([y0.1, y1.1, y2.1, y3.1, y4.1, y5.1, y6.1, y7.1, y8.1, y9.1] : List (DataW H))[j]? = some d → ∀ k ∈ d.weights Try.prog t, k ≤ reachBytes := fun j t d ht hd k hk =>
    hall k (by rw [hy]; simp only [DataW.weights, Try.underlying69]; exact DataW.weights_mem_each ht hd k hk)
  obtain ⟨a0, e0, _, wf0⟩ := DataW.trod_int Try.underlying3 g0
  obtain ⟨a1, e1, _, s1⟩ := DataW.trod_string Try.underlying9 g1
  obtain ⟨a2, e2, _, s2⟩ := DataW.trod_string Try.underlying9 g2
  obtain ⟨pd, nd, cd, ld, e3, hld, hcd, hbd, hrd⟩ := open_row B8 Try.underlying22 k5 dec_byte g3 (hw 3 _ _ rfl rfl)
  obtain ⟨a4, e4, _, wf4⟩ := DataW.trod_int Try.underlying3 g4
  obtain ⟨a5, e5, _, wf5⟩ := DataW.trod_int Try.underlying3 g5
  obtain ⟨a6, e6, _, wf6⟩ := DataW.trod_int Try.underlying3 g6
  obtain ⟨a7, e7, _⟩ := DataW.trod_bool Try.underlying4 g7
  obtain ⟨pp, np, cp, lp, e8, hlp, hcp, hbp, hrp⟩ := open_plan g8 (hw 8 _ _ rfl rfl)
  obtain ⟨zs, n9, _, hy9, hlen9, hzl, hf9⟩ := DataW.trod_struct Try.underlying67 g9
  obtain ⟨z0, z1, rfl⟩ := len2 (hzl.trans (by decide))
  have f0 : DataW.trod enc Try.prog w base spare held n9 64 (List.take (Try.prog.cellsOf 64) [c9, c10]) = some z0 := hf9 0 _ rfl
  have f1 : DataW.trod enc Try.prog w base spare held n9 65 (List.take (Try.prog.cellsOf 65) [c10]) = some z1 := hf9 1 _ rfl
  rw [k64] at f0
  rw [k65] at f1
  have hw9 := hw 9 _ _ rfl rfl
  have hwf : ∀ (j : Nat) (t : TypeId) (d : DataW H), ([64, 65] : List TypeId)[j]? = some t → ([z0.1, z1.1] : List (DataW H))[j]? = some d → ∀ k ∈ d.weights Try.prog t, k ≤ reachBytes := fun j t d ht hd k hk =>
    hw9 k (by rw [hy9]; simp only [DataW.weights, Try.underlying67]; exact DataW.weights_mem_each ht hd k hk)
  obtain ⟨pr, nr, cr, lr, e9, hlr, hcr, hbr, hrr⟩ := open_row boolV Try.underlying64 k4 dec_bool f0 (hwf 0 _ _ rfl rfl)
  obtain ⟨pc, nc, cc, lc, e10, hlc, hcc, hbc, hrc⟩ := open_row intV Try.underlying65 k3 dec_int f1 (hwf 1 _ _ rfl rfl)
  simp only [List.take, List.cons.injEq, and_true] at e0 e1 e2 e4 e5 e6 e7
  rw [b5] at hbd
  rw [b4] at hbr
  rw [b3] at hbc
  unfold reachBytes at hbd hbp hbr hbc
  refine ⟨⟨a0, a1, a2, ld, a4, a5, a6, a7, lp, lr, lc⟩, ⟨pd, cd, pp, cp, pr, cr, pc, cc⟩, ?_, ?_, ?_⟩
  · subst e0 e1 e2 e4 e5 e6 e7
    simp only [stepCells, hld, hlp, hlr, hlc, ← e3, ← e8, ← e9, ← e10]
  · exact { data := by rw [hld]; exact hrd, plan := by rw [hlp]; exact hrp, dirs := by rw [hlr]; exact hrr, cuts := by rw [hlc]; exact hrc, cd := by rw [hld]; exact hcd, cp := by rw [hlp]; exact hcp, cr := by rw [hlr]; exact hcr, cc := by rw [hlc]; exact hcc }
  · exact { name := s1, to := s2, data := by rw [hld]; omega, plan := by rw [hlp]; omega, dirs := by rw [hlr]; omega, cuts := by rw [hlc]; omega, wa := wf4, wb := wf5, wc := wf6 }

/-- A script, opened. -/
theorem open_script {fuel : Nat} {v : Value} {y : DataW H × List MemPlace} (h : DataW.trod enc Try.prog w base spare held fuel 58 [v] = some y) (hall : ∀ k ∈ y.1.weights Try.prog 58, k ≤ reachBytes) :
    ∃ A n c xs, v = .slice A n c ∧ n ≤ c ∧ n * 168 ≤ 140737488351232 ∧ ScriptAt w w.heap.size A n xs := by
  have hc : Try.prog.cellsOf 69 = 11 := by kernel_rfl
  have hb : Try.prog.bytesOf 69 = 168 := by kernel_rfl
  rcases Go.Deep.open_slice Try.underlying58 h with ⟨hcs, _⟩ | ⟨ad, len, cap, m, n, D, Pl, hcs, _, hl, hm, hmm, hx, hcell⟩
  · simp only [List.cons.injEq, and_true] at hcs
    exact ⟨none, 0, 0, [], hcs, Nat.le_refl _, by omega, rfl, fun k x hx => by simp at hx⟩
  · simp only [List.cons.injEq, and_true] at hcs
    have hml : len ≤ m := by rw [hmm]; split <;> omega
    rw [hc] at hcell
    have hwt : ∀ k ∈ y.1.weights Try.prog 58, k ≤ reachBytes := hall
    rw [hx] at hwt
    simp only [DataW.weights, Try.underlying58] at hwt
    have hall2 : ∀ i, i < len → ∀ k ∈ (D i).weights Try.prog 69, k ≤ reachBytes := fun i hi k hk =>
      hwt k (List.mem_cons_of_mem _ (List.mem_append_left _ (mem_weightsAll (d := D i) (List.mem_map.2 ⟨i, List.mem_range.2 hi, rfl⟩) k hk)))
    have hne : len = 0 ∨ ∃ b off, ad = ⟨b, off, none⟩ := by
      rcases Nat.eq_zero_or_pos len with h0 | h0
      · exact .inl h0
      · refine .inr ?_
        obtain ⟨cs', h1, _⟩ := hcell 0 (by omega)
        obtain ⟨_, hl2, h3⟩ := World.cells?_some h1
        have e0 := h3 0 (by omega)
        rw [Go.Deep.add_add] at e0
        obtain ⟨b, off, spot⟩ := ad
        have hs : (⟨b, off, spot⟩ : Addr).add (0 * 11 + 0) = ⟨b, off, spot⟩ := by unfold Addr.add; simp
        rw [hs, List.getElem?_eq_getElem (by omega)] at e0
        cases spot with
        | none => exact ⟨b, off, rfl⟩
        | some s =>
          unfold World.cell? at e0
          split at e0 <;> simp_all
    obtain ⟨B, hB⟩ : ∃ B : Nat → PStep × SLay, ∀ i, i < len → (∀ j u, (stepCells (B i).1 (B i).2).toList[j]? = some u → w.cell? (ad.add (i * 11 + j)) = some u) ∧ StepAt w w.heap.size (B i).2 (B i).1 ∧ (B i).1.Fits := by
      have : Inhabited (PStep × SLay) := ⟨⟨⟨0, ⟨#[]⟩, ⟨#[]⟩, [], 0, 0, 0, false, [], [], []⟩, ⟨none, 0, none, 0, none, 0, none, 0⟩⟩⟩
      refine Go.Deep.choose_lt (p := fun i (b : PStep × SLay) => (∀ j u, (stepCells b.1 b.2).toList[j]? = some u → w.cell? (ad.add (i * 11 + j)) = some u) ∧ StepAt w w.heap.size b.2 b.1 ∧ b.1.Fits) fun i hi => ?_
      obtain ⟨cs', h1, h2⟩ := hcell i (by omega)
      obtain ⟨x, L, rfl, h4, h5⟩ := open_step h2 (hall2 i hi)
      obtain ⟨_, hl2, h3⟩ := World.cells?_some h1
      refine ⟨(x, L), fun j u hu => ?_, h4, h5⟩
      have hj : j < 11 := by
        rcases Nat.lt_or_ge j 11 with h | h
        · exact h
        · rw [List.getElem?_eq_none (by rw [hl2]; exact h)] at hu; cases hu
      have := h3 j hj
      rw [Go.Deep.add_add] at this
      rw [this, hu]
    refine ⟨some ad, len, cap, (List.range len).map fun i => (B i).1, hcs, hl, ?_, by simp, fun k x hx2 => ?_⟩
    · have := hwt _ List.mem_cons_self
      simp only [List.length_map, List.length_range, hb] at this
      unfold reachBytes at this
      have : len * 168 ≤ (len + (m - len)) * 168 := Nat.mul_le_mul_right _ (by omega)
      omega
    · have hk : k < len := by
        rcases Nat.lt_or_ge k len with h | h
        · exact h
        · rw [List.getElem?_eq_none (by simp; exact h)] at hx2; cases hx2
      simp [hk] at hx2
      subst hx2
      obtain ⟨q1, q2, q3⟩ := hB k hk
      rcases hne with h0 | ⟨b, off, rfl⟩
      · omega
      · refine ⟨b, off, (B k).2, rfl, ?_, fun j u hu => ?_, q2, q3⟩
        · have := q1 0 _ rfl
          have := World.block_lt_of_cell? w _ this
          rwa [block_of_add] at this
        · have := q1 j u hu
          rwa [add_plain, ← Nat.add_assoc] at this
end
end Go.Proofs.Ytdmcjomcbhdcbaa
