/- A label that comes in, opened. -/
import Derived.Test.YtdiaihpilniikaaKw
import Derived.Lib.SmallJoins
import Derived.Deep.Strs
import Derived.OpenShut
import Derived.Deep.Slices
import Derived.Deep.Fields
import Derived.ChangeArms
import Derived.SizedLaws
namespace Go.Proofs.Ytdiaihpilniikaa
open Go.ChangeShapes Go.WideShapes Go.ChangeAt Go.RowKit Go.Maps

theorem mapM_some_of {α β : Type} {f : α → Option β} : ∀ {l : List α} {ys : List β}, l.mapM f = some ys → ∀ x ∈ l, ∃ y, f x = some y
  | [], _, _, x, hx => by simp at hx
  | a :: l, ys, h, x, hx => by
    rw [List.mapM_cons] at h
    cases ha : f a with
    | none => rw [ha] at h; simp at h
    | some b =>
      rw [ha] at h
      cases hl : l.mapM f with
      | none => rw [hl] at h; simp at h
      | some bs =>
        rcases List.mem_cons.1 hx with rfl | hx
        · exact ⟨b, ha⟩
        · exact mapM_some_of hl x hx
section
variable {H : Type} {enc : TypeId × Value → H} {w : World} {base : Nat} {spare : Nat → Bool} {held : Bool}
theorem trod_byte {fuel : Nat} {v : Value} {y : DataW H × List MemPlace} (h : DataW.trod enc Try.prog w base spare held fuel 5 [v] = some y) : ∃ a : UInt8, v = .int .u8 (a.toNat : Int) := by
  obtain ⟨n, hv, _, hw⟩ := DataW.trod_int Try.underlying5 h
  injection hv with hv
  have h2 : 0 ≤ n ∧ n ≤ 255 := by
    have hmin : IntKind.u8.min = 0 := rfl
    have hmax : IntKind.u8.max = 255 := rfl
    simp only [Lit.wf, Bool.and_eq_true, decide_eq_true_eq, hmin, hmax] at hw
    exact hw
  obtain ⟨a, rfl⟩ := u8_of h2.1 h2.2
  exact ⟨a, hv⟩
theorem trod_i64 {fuel : Nat} {v : Value} {y : DataW H × List MemPlace} (h : DataW.trod enc Try.prog w base spare held fuel 3 [v] = some y) : ∃ n : Int, v = .int .i64 n ∧ -9223372036854775808 ≤ n ∧ n ≤ 9223372036854775807 := by
  obtain ⟨n, hv, _, hw⟩ := DataW.trod_int Try.underlying3 h
  injection hv with hv
  have hmin : IntKind.i64.min = -9223372036854775808 := rfl
  have hmax : IntKind.i64.max = 9223372036854775807 := rfl
  simp only [Lit.wf, Bool.and_eq_true, decide_eq_true_eq, hmin, hmax] at hw
  exact ⟨n, hv, hw⟩
theorem trod_arr {P : Program} {t e : TypeId} {fuel m : Nat} {cs : List Value} {x : DataW H × List MemPlace} (ht : P.underlying t = some (.array m e)) (hce : P.cellsOf e = 1) (h : DataW.trod enc P w base spare held fuel t cs = some x) :
    ∀ i, i < m → ∃ n y, DataW.trod enc P w base spare held n e ((cs.drop i).take 1) = some y := by
  cases fuel with
  | zero => simp [DataW.trod] at h
  | succ n =>
    unfold DataW.trod at h
    rw [ht] at h
    simp only [hce, Nat.mul_one] at h
    split at h
    · obtain ⟨ys, hys, _⟩ := Option.map_eq_some_iff.1 h
      intro i hi
      obtain ⟨y, hy⟩ := mapM_some_of hys i (by simpa using hi)
      exact ⟨n, y, hy⟩
    · cases h
theorem trod_arr8 {fuel : Nat} {c0 c1 c2 c3 c4 c5 c6 c7 : Value} {x : DataW H × List MemPlace} (h : DataW.trod enc Try.prog w base spare held fuel 22 [c0, c1, c2, c3, c4, c5, c6, c7] = some x) :
    ∃ a0 a1 a2 a3 a4 a5 a6 a7 : UInt8, [c0, c1, c2, c3, c4, c5, c6, c7] = [Value.int .u8 (a0.toNat : Int), Value.int .u8 (a1.toNat : Int), Value.int .u8 (a2.toNat : Int), Value.int .u8 (a3.toNat : Int), Value.int .u8 (a4.toNat : Int), Value.int .u8 (a5.toNat : Int), Value.int .u8 (a6.toNat : Int), Value.int .u8 (a7.toNat : Int)] := by
  have k5 : Try.prog.cellsOf 5 = 1 := by kernel_rfl
  have g := trod_arr Try.underlying22 k5 h
  obtain ⟨m0, y0, h0⟩ := g 0 (by decide)
  obtain ⟨m1, y1, h1⟩ := g 1 (by decide)
  obtain ⟨m2, y2, h2⟩ := g 2 (by decide)
  obtain ⟨m3, y3, h3⟩ := g 3 (by decide)
  obtain ⟨m4, y4, h4⟩ := g 4 (by decide)
  obtain ⟨m5, y5, h5⟩ := g 5 (by decide)
  obtain ⟨m6, y6, h6⟩ := g 6 (by decide)
  obtain ⟨m7, y7, h7⟩ := g 7 (by decide)
  obtain ⟨a0, rfl⟩ := trod_byte (v := c0) h0
  obtain ⟨a1, rfl⟩ := trod_byte (v := c1) h1
  obtain ⟨a2, rfl⟩ := trod_byte (v := c2) h2
  obtain ⟨a3, rfl⟩ := trod_byte (v := c3) h3
  obtain ⟨a4, rfl⟩ := trod_byte (v := c4) h4
  obtain ⟨a5, rfl⟩ := trod_byte (v := c5) h5
  obtain ⟨a6, rfl⟩ := trod_byte (v := c6) h6
  obtain ⟨a7, rfl⟩ := trod_byte (v := c7) h7
  exact ⟨a0, a1, a2, a3, a4, a5, a6, a7, rfl⟩
set_option maxRecDepth 100000 in
theorem open_lab {fuel : Nat} {cs : List Value} {y : DataW H × List MemPlace} (h : DataW.trod enc Try.prog w base spare held fuel 26 cs = some y) : ∃ l : Lab, cs = (labCells l).toList ∧ l.Wf := by
  obtain ⟨y0, y1, y2, y3, n, _, hlen, g0, g1, g2, g3⟩ := Go.Joins.trod_struct4 Try.underlying26 h
  have k26 : Try.prog.cellsOf 26 = 13 := by kernel_rfl
  have k22 : Try.prog.cellsOf 22 = 8 := by kernel_rfl
  have k24 : Try.prog.cellsOf 24 = 3 := by kernel_rfl
  have k3 : Try.prog.cellsOf 3 = 1 := by kernel_rfl
  rw [k26] at hlen
  clear h
  match cs, hlen with
  | [c0, c1, c2, c3, c4, c5, c6, c7, c8, c9, c10, c11, c12], _ =>
    have e0 : DataW.trod enc Try.prog w base spare held n 22 (List.take (Try.prog.cellsOf 22) [c0, c1, c2, c3, c4, c5, c6, c7, c8, c9, c10, c11, c12]) = some y0 := g0
    have e1 : DataW.trod enc Try.prog w base spare held n 24 (List.take (Try.prog.cellsOf 24) [c8, c9, c10, c11, c12]) = some y1 := g1
    have e2 : DataW.trod enc Try.prog w base spare held n 3 (List.take (Try.prog.cellsOf 3) [c11, c12]) = some y2 := g2
    have e3 : DataW.trod enc Try.prog w base spare held n 3 (List.take (Try.prog.cellsOf 3) [c12]) = some y3 := g3
    rw [k22] at e0
    rw [k24] at e1
    rw [k3] at e2 e3
    obtain ⟨a0, a1, a2, a3, a4, a5, a6, a7, ha⟩ := trod_arr8 (c0 := c0) e0
    obtain ⟨z0, z1, z2, n', _, _, f0, f1, f2⟩ := Go.Deep.trod_struct3 Try.underlying24 e1
    have d0 : DataW.trod enc Try.prog w base spare held n' 3 (List.take (Try.prog.cellsOf 3) [c8, c9, c10]) = some z0 := f0
    have d1 : DataW.trod enc Try.prog w base spare held n' 3 (List.take (Try.prog.cellsOf 3) [c9, c10]) = some z1 := f1
    have d2 : DataW.trod enc Try.prog w base spare held n' 3 (List.take (Try.prog.cellsOf 3) [c10]) = some z2 := f2
    rw [k3] at d0 d1 d2
    obtain ⟨nk, rfl, hk⟩ := trod_i64 (v := c8) d0
    obtain ⟨nm, rfl, hm⟩ := trod_i64 (v := c9) d1
    obtain ⟨nb, rfl, _⟩ := trod_i64 (v := c10) d2
    obtain ⟨ni, rfl, _⟩ := trod_i64 (v := c11) e2
    obtain ⟨ne, rfl, _⟩ := trod_i64 (v := c12) e3
    refine ⟨⟨[a0, a1, a2, a3, a4, a5, a6, a7], nk, nm, nb, ni, ne⟩, ?_, ⟨rfl, hk, hm⟩⟩
    injection ha with h0 ha
    injection ha with h1 ha
    injection ha with h2 ha
    injection ha with h3 ha
    injection ha with h4 ha
    injection ha with h5 ha
    injection ha with h6 ha
    injection ha with h7 ha
    subst h0 h1 h2 h3 h4 h5 h6 h7
    rfl
end
section
variable {H : Type} {enc : TypeId × Value → H} {P : Program} {w : World} {base : Nat} {spare : Nat → Bool} {held : Bool}

theorem mem_weightsAll {e : TypeId} {d : DataW H} : ∀ {l : List (DataW H)}, d ∈ l → ∀ n ∈ d.weights P e, n ∈ DataW.weightsAll P e l
  | x :: l, h, n, hn => by
    simp only [DataW.weightsAll, List.mem_append]
    rcases List.mem_cons.1 h with rfl | h
    · exact .inl hn
    · exact .inr (mem_weightsAll h n hn)

/-- A slice of one-cell elements, opened as a list. -/
theorem open_row {α : Type} [Inhabited α] (f : α → Value) {t e : TypeId} {fuel : Nat} {v : Value} {x : DataW H × List MemPlace} (ht : P.underlying t = some (.slice e)) (hc : P.cellsOf e = 1)
    (hdec : ∀ n V d, DataW.trod enc P w base spare held n e [V] = some d → ∃ a, V = f a) (h : DataW.trod enc P w base spare held fuel t [v] = some x) (hall : ∀ k ∈ x.1.weights P t, k ≤ reachBytes) :
    ∃ A n c l, v = .slice A n c ∧ List.length l = n ∧ n ≤ c ∧ n * P.bytesOf e ≤ reachBytes ∧ Reads w w.heap.size 1 A n (l.map f) := by
  rcases Go.Deep.open_slice1 ht hc h with ⟨hcs, _⟩ | ⟨ad, len, cap, m, n, V, D, Pl, hcs, _, hl, hm, hmm, hx, hcell⟩
  · simp only [List.cons.injEq, and_true] at hcs
    exact ⟨none, 0, 0, [], hcs, rfl, Nat.le_refl _, by omega, Reads.none_⟩
  · simp only [List.cons.injEq, and_true] at hcs
    have hml : len ≤ m := by rw [hmm]; split <;> omega
    obtain ⟨B, hB⟩ : ∃ B : Nat → α, ∀ i, i < len → V i = f (B i) := Go.Deep.choose_lt (p := fun i b => V i = f b) fun i hi => by
      obtain ⟨_, htr⟩ := hcell i (by omega)
      exact hdec _ _ _ htr
    refine ⟨some ad, len, cap, (List.range len).map B, hcs, by simp, hl, ?_, by simp, fun hn => ⟨ad, rfl, ?_, fun j u hu => ?_⟩⟩
    · have := hall ((((List.range len).map D).length + ((List.range (m - len)).map fun j => D (len + j)).length) * P.bytesOf e) (by rw [hx]; simp [DataW.weights, ht])
      simp only [List.length_map, List.length_range] at this
      exact Nat.le_trans (Nat.mul_le_mul_right _ (by omega)) this
    · have h0 := (hcell 0 (by omega)).1
      have := World.block_lt_of_cell? w _ h0
      rwa [block_of_add] at this
    · have hj : j < len := by
        rcases Nat.lt_or_ge j len with h | h
        · exact h
        · rw [List.getElem?_eq_none (by simp; exact h)] at hu; cases hu
      rw [(hcell j (by omega)).1, hB j hj]
      simp [hj] at hu
      rw [hu]
end
section
variable {H : Type} {enc : TypeId × Value → H} {w : World} {base : Nat} {spare : Nat → Bool} {held : Bool}
theorem dec_byte (n : Nat) (V : Value) (d : DataW H × List MemPlace) (h : DataW.trod enc Try.prog w base spare held n 5 [V] = some d) : ∃ b, V = B8 b := by
  obtain ⟨z, hz, _, hwf⟩ := DataW.trod_int Try.underlying5 h
  simp only [List.cons.injEq, and_true] at hz
  simp only [Lit.wf, Bool.and_eq_true, decide_eq_true_eq] at hwf
  have h1 : (0 : Int) ≤ z := hwf.1
  have h2 : z ≤ 255 := hwf.2
  refine ⟨UInt8.ofNat z.toNat, ?_⟩
  rw [hz]
  unfold B8
  congr 1
  rw [UInt8.toNat_ofNat']
  omega
end
end Go.Proofs.Ytdiaihpilniikaa
