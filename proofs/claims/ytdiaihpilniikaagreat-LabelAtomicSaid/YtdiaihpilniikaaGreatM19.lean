/- LabelBack and LabelOne: the walks.; A label that comes in, opened.; What is done with a wound: Arm, Fuse; the builtin copy over elements of several cells. -/
import Derived.Test.YtdiaihpilniikaaGreatM18
import Derived.Lib.SmallJoins
import Derived.Deep.Strs
import Derived.OpenShut
import Derived.Deep.Slices
import Derived.Deep.Fields
import Derived.ChangeArms
import Derived.SizedLaws
import Derived.Test.YtdiaihpilniikaaGreatM10
import Derived.Test.YtdiaihpilniikaaGreatM11
import Derived.Laws.CopyOwn
import Derived.Laws.MakeOwn
namespace Go.Proofs.YtdiaihpilniikaaGreat
open Go.RowKit Go.Maps
theorem may_two (l : Lab) (h : l.may ≠ 0) : l.may = 4 ∨ l.may = 2 := by
  by_cases h1 : l.m < 1 ∨ l.k < l.m ∨ 255 - l.m < l.k ∨ l.b < 1 ∨ 65536 < l.b
  · exact .inl (if_pos h1)
  · by_cases h2 : l.i < 0 ∨ l.k + l.m ≤ l.i ∨ l.e < 0 ∨ 4294967295 < l.e
    · exact .inr ((if_neg h1).trans (if_pos h2))
    · exact absurd ((if_neg h1).trans (if_neg h2)) h
/-- A label's value, its parts hidden. -/
theorem agg_hid (l : Lab) (h : l.st.length = 8) : ∃ (a0 a1 a2 a3 a4 a5 a6 a7 : UInt8) (n0 n1 n2 n3 n4 : Int), labV l = .agg #[.int .u8 (a0.toNat : Int), .int .u8 (a1.toNat : Int), .int .u8 (a2.toNat : Int), .int .u8 (a3.toNat : Int), .int .u8 (a4.toNat : Int), .int .u8 (a5.toNat : Int), .int .u8 (a6.toNat : Int), .int .u8 (a7.toNat : Int), .int .i64 n0, .int .i64 n1, .int .i64 n2, .int .i64 n3, .int .i64 n4] := by
  obtain ⟨a0, a1, a2, a3, a4, a5, a6, a7, e⟩ := agg_of l h
  exact ⟨a0, a1, a2, a3, a4, a5, a6, a7, _, _, _, _, _, e⟩
theorem own_head {w : World} {base n : Nat} {A : Option Addr} {c : Nat} {e : TypeId} {xs : List Value} (h : w.ownsRow base e 1 (.slice A n c) n xs) (hn : 0 < n) : ∃ g, A = some ⟨g, 0, none⟩ := by
  rcases h.2 with ⟨_, h0⟩ | ⟨g', cap, cur, hv, _⟩
  · omega
  · injection hv with e1 e2 e3; exact ⟨g', e1⟩

theorem conv_at (w : World) (B : Nat) (a : Option Addr) (bs : List UInt8) (n c : Nat) (h : Reads w B 1 a n (bs.map B8)) : (convert 22 9 (.slice a n c)).run Tryz.prog w = .ok (.string ⟨bs.toArray⟩) w := by
  have hl : bs.length = n := by have := h.1; simpa using this
  subst hl
  exact conv_any w B a bs c h
end Go.Proofs.YtdiaihpilniikaaGreat
namespace Go.Proofs.YtdiaihpilniikaaGreat
open Go.ChangeShapes Go.WideShapes Go.ChangeAt Go.RowKit Go.Maps

theorem mapM_some_of {α β : Type} {f : α → Option β} : ∀ {l : List α} {ys : List β}, l.mapM f = some ys → ∀ x ∈ l, ∃ y, f x = some y
  | [], _, _, x, hx => by simp at hx
  | a :: l, ys, h, x, hx => by
    rw [List.mapM_cons] at h
    cases ha : f a with
    | none => rw [ha] at h; simp at h
    | some b =>
      rw [ha] at h
      cases hl : l.mapM f with
      | none => rw [hl] at h; simp at h
      | some bs =>
        rcases List.mem_cons.1 hx with rfl | hx
        · exact ⟨b, ha⟩
        · exact mapM_some_of hl x hx
section
variable {H : Type} {enc : TypeId × Value → H} {w : World} {base : Nat} {spare : Nat → Bool} {held : Bool}
theorem trod_byte {fuel : Nat} {v : Value} {y : DataW H × List MemPlace} (h : DataW.trod enc Tryz.prog w base spare held fuel 5 [v] = some y) : ∃ a : UInt8, v = .int .u8 (a.toNat : Int) := by
  obtain ⟨n, hv, _, hw⟩ := DataW.trod_int Tryz.underlying5 h
  injection hv with hv
  have h2 : 0 ≤ n ∧ n ≤ 255 := by
    have hmin : IntKind.u8.min = 0 := rfl
    have hmax : IntKind.u8.max = 255 := rfl
    simp only [Lit.wf, Bool.and_eq_true, decide_eq_true_eq, hmin, hmax] at hw
    exact hw
  obtain ⟨a, rfl⟩ := u8_of h2.1 h2.2
  exact ⟨a, hv⟩
theorem trod_i64 {fuel : Nat} {v : Value} {y : DataW H × List MemPlace} (h : DataW.trod enc Tryz.prog w base spare held fuel 3 [v] = some y) : ∃ n : Int, v = .int .i64 n ∧ -9223372036854775808 ≤ n ∧ n ≤ 9223372036854775807 := by
  obtain ⟨n, hv, _, hw⟩ := DataW.trod_int Tryz.underlying3 h
  injection hv with hv
  have hmin : IntKind.i64.min = -9223372036854775808 := rfl
  have hmax : IntKind.i64.max = 9223372036854775807 := rfl
  simp only [Lit.wf, Bool.and_eq_true, decide_eq_true_eq, hmin, hmax] at hw
  exact ⟨n, hv, hw⟩
theorem trod_arr {P : Program} {t e : TypeId} {fuel m : Nat} {cs : List Value} {x : DataW H × List MemPlace} (ht : P.underlying t = some (.array m e)) (hce : P.cellsOf e = 1) (h : DataW.trod enc P w base spare held fuel t cs = some x) :
    ∀ i, i < m → ∃ n y, DataW.trod enc P w base spare held n e ((cs.drop i).take 1) = some y := by
  cases fuel with
  | zero => simp [DataW.trod] at h
  | succ n =>
    unfold DataW.trod at h
    rw [ht] at h
    simp only [hce, Nat.mul_one] at h
    split at h
    · obtain ⟨ys, hys, _⟩ := Option.map_eq_some_iff.1 h
      intro i hi
      obtain ⟨y, hy⟩ := mapM_some_of hys i (by simpa using hi)
      exact ⟨n, y, hy⟩
    · cases h
theorem trod_arr8 {fuel : Nat} {c0 c1 c2 c3 c4 c5 c6 c7 : Value} {x : DataW H × List MemPlace} (h : DataW.trod enc Tryz.prog w base spare held fuel 23 [c0, c1, c2, c3, c4, c5, c6, c7] = some x) :
    ∃ a0 a1 a2 a3 a4 a5 a6 a7 : UInt8, [c0, c1, c2, c3, c4, c5, c6, c7] = [Value.int .u8 (a0.toNat : Int), Value.int .u8 (a1.toNat : Int), Value.int .u8 (a2.toNat : Int), Value.int .u8 (a3.toNat : Int), Value.int .u8 (a4.toNat : Int), Value.int .u8 (a5.toNat : Int), Value.int .u8 (a6.toNat : Int), Value.int .u8 (a7.toNat : Int)] := by
  have k5 : Tryz.prog.cellsOf 5 = 1 := by kernel_rfl
  have g := trod_arr Tryz.underlying23 k5 h
  obtain ⟨m0, y0, h0⟩ := g 0 (by decide)
  obtain ⟨m1, y1, h1⟩ := g 1 (by decide)
  obtain ⟨m2, y2, h2⟩ := g 2 (by decide)
  obtain ⟨m3, y3, h3⟩ := g 3 (by decide)
  obtain ⟨m4, y4, h4⟩ := g 4 (by decide)
  obtain ⟨m5, y5, h5⟩ := g 5 (by decide)
  obtain ⟨m6, y6, h6⟩ := g 6 (by decide)
  obtain ⟨m7, y7, h7⟩ := g 7 (by decide)
  obtain ⟨a0, rfl⟩ := trod_byte (v := c0) h0
  obtain ⟨a1, rfl⟩ := trod_byte (v := c1) h1
  obtain ⟨a2, rfl⟩ := trod_byte (v := c2) h2
  obtain ⟨a3, rfl⟩ := trod_byte (v := c3) h3
  obtain ⟨a4, rfl⟩ := trod_byte (v := c4) h4
  obtain ⟨a5, rfl⟩ := trod_byte (v := c5) h5
  obtain ⟨a6, rfl⟩ := trod_byte (v := c6) h6
  obtain ⟨a7, rfl⟩ := trod_byte (v := c7) h7
  exact ⟨a0, a1, a2, a3, a4, a5, a6, a7, rfl⟩
set_option maxRecDepth 100000 in
theorem open_lab {fuel : Nat} {cs : List Value} {y : DataW H × List MemPlace} (h : DataW.trod enc Tryz.prog w base spare held fuel 27 cs = some y) : ∃ l : Lab, cs = (labCells l).toList ∧ l.Wf := by
  obtain ⟨y0, y1, y2, y3, n, _, hlen, g0, g1, g2, g3⟩ := Go.Joins.trod_struct4 Tryz.underlying27 h
  have k26 : Tryz.prog.cellsOf 27 = 13 := by kernel_rfl
  have k22 : Tryz.prog.cellsOf 23 = 8 := by kernel_rfl
  have k24 : Tryz.prog.cellsOf 25 = 3 := by kernel_rfl
  have k3 : Tryz.prog.cellsOf 3 = 1 := by kernel_rfl
  rw [k26] at hlen
  clear h
  match cs, hlen with
  | [c0, c1, c2, c3, c4, c5, c6, c7, c8, c9, c10, c11, c12], _ =>
    have e0 : DataW.trod enc Tryz.prog w base spare held n 23 (List.take (Tryz.prog.cellsOf 23) [c0, c1, c2, c3, c4, c5, c6, c7, c8, c9, c10, c11, c12]) = some y0 := g0
    have e1 : DataW.trod enc Tryz.prog w base spare held n 25 (List.take (Tryz.prog.cellsOf 25) [c8, c9, c10, c11, c12]) = some y1 := g1
    have e2 : DataW.trod enc Tryz.prog w base spare held n 3 (List.take (Tryz.prog.cellsOf 3) [c11, c12]) = some y2 := g2
    have e3 : DataW.trod enc Tryz.prog w base spare held n 3 (List.take (Tryz.prog.cellsOf 3) [c12]) = some y3 := g3
    rw [k22] at e0
    rw [k24] at e1
    rw [k3] at e2 e3
    obtain ⟨a0, a1, a2, a3, a4, a5, a6, a7, ha⟩ := trod_arr8 (c0 := c0) e0
    obtain ⟨z0, z1, z2, n', _, _, f0, f1, f2⟩ := Go.Deep.trod_struct3 Tryz.underlying25 e1
    have d0 : DataW.trod enc Tryz.prog w base spare held n' 3 (List.take (Tryz.prog.cellsOf 3) [c8, c9, c10]) = some z0 := f0
    have d1 : DataW.trod enc Tryz.prog w base spare held n' 3 (List.take (Tryz.prog.cellsOf 3) [c9, c10]) = some z1 := f1
    have d2 : DataW.trod enc Tryz.prog w base spare held n' 3 (List.take (Tryz.prog.cellsOf 3) [c10]) = some z2 := f2
    rw [k3] at d0 d1 d2
    obtain ⟨nk, rfl, hk⟩ := trod_i64 (v := c8) d0
    obtain ⟨nm, rfl, hm⟩ := trod_i64 (v := c9) d1
    obtain ⟨nb, rfl, _⟩ := trod_i64 (v := c10) d2
    obtain ⟨ni, rfl, _⟩ := trod_i64 (v := c11) e2
    obtain ⟨ne, rfl, _⟩ := trod_i64 (v := c12) e3
    refine ⟨⟨[a0, a1, a2, a3, a4, a5, a6, a7], nk, nm, nb, ni, ne⟩, ?_, ⟨rfl, hk, hm⟩⟩
    injection ha with h0 ha
    injection ha with h1 ha
    injection ha with h2 ha
    injection ha with h3 ha
    injection ha with h4 ha
    injection ha with h5 ha
    injection ha with h6 ha
    injection ha with h7 ha
    subst h0 h1 h2 h3 h4 h5 h6 h7
    rfl
end
section
variable {H : Type} {enc : TypeId × Value → H} {P : Program} {w : World} {base : Nat} {spare : Nat → Bool} {held : Bool}

theorem mem_weightsAll {e : TypeId} {d : DataW H} : ∀ {l : List (DataW H)}, d ∈ l → ∀ n ∈ d.weights P e, n ∈ DataW.weightsAll P e l
  | x :: l, h, n, hn => by
    simp only [DataW.weightsAll, List.mem_append]
    rcases List.mem_cons.1 h with rfl | h
    · exact .inl hn
    · exact .inr (mem_weightsAll h n hn)

/-- A slice of one-cell elements, opened as a list. -/
theorem open_row {α : Type} [Inhabited α] (f : α → Value) {t e : TypeId} {fuel : Nat} {v : Value} {x : DataW H × List MemPlace} (ht : P.underlying t = some (.slice e)) (hc : P.cellsOf e = 1)
    (hdec : ∀ n V d, DataW.trod enc P w base spare held n e [V] = some d → ∃ a, V = f a) (h : DataW.trod enc P w base spare held fuel t [v] = some x) (hall : ∀ k ∈ x.1.weights P t, k ≤ reachBytes) :
    ∃ A n c l, v = .slice A n c ∧ List.length l = n ∧ n ≤ c ∧ n * P.bytesOf e ≤ reachBytes ∧ Reads w w.heap.size 1 A n (l.map f) := by
  rcases Go.Deep.open_slice1 ht hc h with ⟨hcs, _⟩ | ⟨ad, len, cap, m, n, V, D, Pl, hcs, _, hl, hm, hmm, hx, hcell⟩
  · simp only [List.cons.injEq, and_true] at hcs
    exact ⟨none, 0, 0, [], hcs, rfl, Nat.le_refl _, by omega, Reads.none_⟩
  · simp only [List.cons.injEq, and_true] at hcs
    have hml : len ≤ m := by rw [hmm]; split <;> omega
    obtain ⟨B, hB⟩ : ∃ B : Nat → α, ∀ i, i < len → V i = f (B i) := Go.Deep.choose_lt (p := fun i b => V i = f b) fun i hi => by
      obtain ⟨_, htr⟩ := hcell i (by omega)
      exact hdec _ _ _ htr
    refine ⟨some ad, len, cap, (List.range len).map B, hcs, by simp, hl, ?_, by simp, fun hn => ⟨ad, rfl, ?_, fun j u hu => ?_⟩⟩
    · have := hall ((((List.range len).map D).length + ((List.range (m - len)).map fun j => D (len + j)).length) * P.bytesOf e) (by rw [hx]; simp [DataW.weights, ht])
      simp only [List.length_map, List.length_range] at this
      exact Nat.le_trans (Nat.mul_le_mul_right _ (by omega)) this
    · have h0 := (hcell 0 (by omega)).1
      have := World.block_lt_of_cell? w _ h0
      rwa [block_of_add] at this
    · have hj : j < len := by
        rcases Nat.lt_or_ge j len with h | h
        · exact h
        · rw [List.getElem?_eq_none (by simp; exact h)] at hu; cases hu
      rw [(hcell j (by omega)).1, hB j hj]
      simp [hj] at hu
      rw [hu]
end
section
variable {H : Type} {enc : TypeId × Value → H} {w : World} {base : Nat} {spare : Nat → Bool} {held : Bool}
theorem dec_byte (n : Nat) (V : Value) (d : DataW H × List MemPlace) (h : DataW.trod enc Tryz.prog w base spare held n 5 [V] = some d) : ∃ b, V = B8 b := by
  obtain ⟨z, hz, _, hwf⟩ := DataW.trod_int Tryz.underlying5 h
  simp only [List.cons.injEq, and_true] at hz
  simp only [Lit.wf, Bool.and_eq_true, decide_eq_true_eq] at hwf
  have h1 : (0 : Int) ≤ z := hwf.1
  have h2 : z ≤ 255 := hwf.2
  refine ⟨UInt8.ofNat z.toNat, ?_⟩
  rw [hz]
  unfold B8
  congr 1
  rw [UInt8.toNat_ofNat']
  omega
end
end Go.Proofs.YtdiaihpilniikaaGreat
namespace Go.Proofs.YtdiaihpilniikaaGreat
open Go.RowKit Go.Maps
theorem Touch.more {G : Nat → Prop} {a b : World} (h : Touch G a b) (o : Obj) : Touch G a (b.alloc o) :=
  ⟨h.os, h.tape, h.output, by have := h.size; rw [alloc_size]; omega, fun k hk hn => (Below.heap_alloc b o k (Nat.lt_of_lt_of_le hk h.size)).trans (h.block k hk hn)⟩


section
variable {P : Program} (w : World)
/-- The builtin copy over elements of several cells. -/
theorem run_copy_wide (dT sT ty elem : TypeId) (size : Nat) (g dLen dCap : Nat) (a : Addr) (sLen sCap : Nat) (cur : Array Value) (t : TypeId) (cs : List Value)
    (hu : P.underlying dT = some (.slice elem)) (hs : (P.info? elem).map (·.size) = some size)
    (hg : w.heap[g]? = some (.cells cur t (0, 0))) (hn : cs.length = Nat.min sLen dLen * size)
    (hsrc : ∀ j v, cs[j]? = some v → w.cell? (a.add j) = some v) (hfit : cs.length = cur.size) (h1 : ∀ v ∈ cs, v.oneCell' = true) :
    (Builtin.copy_ #[dT, sT] ty #[.slice (some ⟨g, 0, none⟩) dLen dCap, .slice (some a) sLen sCap]).run P w = .ok (goInt (Nat.min sLen dLen)) (w.setRow g cs.toArray) := by
  have hl := run_loadCells_list (P := P) w a cs hsrc
  have hst := run_storeCells_at P g 0 t cs 0 cur w hg (by simp; omega) h1
  have hd : cur.toList.drop cs.length = [] := List.drop_of_length_le (by simp; omega)
  simp only [Nat.zero_add, List.take_zero, List.nil_append, hd, List.append_nil] at hst
  cases hq : P.info? elem with
  | none => simp [hq] at hs
  | some i =>
    have hi : i.size = size := by simpa [hq] using hs
    simp [Builtin.copy_, run_underlying hu, Builtin.lenOf, Builtin.firstCells, sizeOf, typeInfo, hq, hi, ← hn, hl, hst]
end

theorem faultInfo : (Tryz.prog.info? 120).map (fun i => (i.zero, i.size, i.bytes)) = some (some (.agg #[.int .i64 0, .int .i64 0]), 2, 16) := by kernel_rfl
theorem faultSize : (Tryz.prog.info? 120).map (·.size) = some 2 := by kernel_rfl
theorem planCells_length (l : List (Int × Int)) : (planCells l).length = l.length * 2 := by
  induction l with
  | nil => rfl
  | cons x r ih =>
    have e : planCells (x :: r) = [.int .i64 x.1, .int .i64 x.2] ++ planCells r := rfl
    rw [e, List.length_append, ih, List.length_cons]; simp; omega
theorem planCells_one (l : List (Int × Int)) : ∀ v ∈ planCells l, v.oneCell' = true := by
  intro v hv
  obtain ⟨f, _, hf⟩ := List.mem_flatMap.1 hv
  simp at hf
  rcases hf with rfl | rfl <;> rfl

theorem arm_nil (s : Value) (w : World) : Calls Tryz.prog 9 #[.pointer none, s] w fun e w' => e = .returned (.tuple #[]) ∧ w = w' := by
  go_enter Tryz.func9, Tryz.ntmps9
  go_wp2
  exact bodyPost_ret (v := .tuple #[]) (by simp only [results, Tryz.results9]; go_simp) rfl ⟨rfl, rfl⟩

theorem copy_plan (W : World) (g n c B : Nat) (A : Option Addr) (l : List (Int × Int)) (cur : Array Value) (hb : Blk W g 120 cur) (hs : cur.size = n * 2) (hr : Reads W B 2 A n (planCells l)) (hl : l.length = n) :
    ∃ W2, (Builtin.copy_ #[28, 28] 3 #[.slice (some ⟨g, 0, none⟩) n n, .slice A n c]).run Tryz.prog W = .ok (goInt n) W2 ∧ Blk W2 g 120 (planCells l).toArray ∧ Touch (· = g) W W2 ∧ W2.heap.size = W.heap.size := by
  have hpl : (planCells l).length = n * 2 := by rw [planCells_length, hl]
  cases A with
  | none =>
    have hn : n = 0 := by
      rcases Nat.eq_zero_or_pos n with h | h
      · exact h
      · obtain ⟨ad, e, _⟩ := hr.2 h; cases e
    subst hn
    have hll : l = [] := List.eq_nil_of_length_eq_zero hl
    subst hll
    have hcur : cur = #[] := Array.eq_empty_of_size_eq_zero (by omega)
    subst hcur
    refine ⟨W, ?_, hb, Touch.refl _ _, rfl⟩
    obtain ⟨i, hi, _, hz1, _⟩ := info_parts faultInfo
    simp [Builtin.copy_, run_underlying Tryz.underlying28, Builtin.lenOf, Builtin.firstCells, sizeOf, typeInfo, hi, storeCells]
  | some ad =>
    refine ⟨_, ?_, setRow_heap W g cur _ _ _ hb, ⟨rfl, rfl, rfl, by simp [World.setRow], fun k _ hk => setRow_other W g k _ hk⟩, by simp [World.setRow]⟩
    have hsrc : ∀ j v, (planCells l)[j]? = some v → W.cell? (ad.add j) = some v := by
      intro j v hj
      rcases Nat.eq_zero_or_pos n with h | h
      · have : planCells l = [] := List.eq_nil_of_length_eq_zero (by omega)
        rw [this] at hj; simp at hj
      · obtain ⟨ad', e, _, hc⟩ := hr.2 h
        injection e with e; subst e; exact hc j v hj
    have := run_copy_wide (P := Tryz.prog) W 28 28 3 120 2 g n n ad n c cur 120 (planCells l) Tryz.underlying28 faultSize hb (by rw [hpl, show Nat.min n n = n from Nat.min_self n]) hsrc (by omega) (planCells_one l)
    rwa [show Nat.min n n = n from Nat.min_self n] at this

set_option maxRecDepth 100000 in
set_option maxHeartbeats 1000000 in
theorem arm_any (q : Nat) (dv : Value) (X : Wnd) (F : Nat → Prop) (A : Option Addr) (n c : Nat) (l : List (Int × Int)) (w : World) (h : Wn w q dv X F) (hr : Reads w w.heap.size 2 A n (planCells l)) (hA : 0 < n → ∀ ad, A = some ad → ¬F ad.block) (hn : n * 16 ≤ 140737488351232) :
    Calls Tryz.prog 9 #[.pointer (some ⟨q, 0, none⟩), .slice A n c] w fun e w' =>
      e = .returned (.tuple #[]) ∧ Wn w' q dv (X.arm l) (grow F w w') ∧ Touch F w w' := by
  obtain ⟨pv, fq, h, hF0⟩ := h
  have hl : l.length = n := by have := hr.1; rw [planCells_length] at this; omega
  obtain ⟨i, hi, hz0, hz1, hz2⟩ := info_parts faultInfo
  have hmk := fun (W : World) => run_make (P := Tryz.prog) W 28 120 i _ Tryz.underlying28 hi hz0 .i64 .i64 (n : Int) (n : Int) (by omega) (Int.le_refl _) (by rw [hz2]; omega) (by omega)
  simp only [Int.toNat_natCast, hz1] at hmk
  have hql := h.head.lt
  obtain ⟨W1, hW1⟩ : ∃ W1, W1 = (w.setCell ⟨q, 3, none⟩ (.slice (some ⟨w.heap.size, 0, none⟩) n n)).alloc (.cells (madeCells #[.int .i64 0, .int .i64 0] (n * 2)) 120) := ⟨_, rfl⟩
  have hqh : q ≠ w.heap.size := Nat.ne_of_lt hql
  have hBh : Blk W1 w.heap.size 120 (madeCells #[.int .i64 0, .int .i64 0] (n * 2)) := by
    rw [hW1]
    have := Blk.new (w.setCell ⟨q, 3, none⟩ (.slice (some ⟨w.heap.size, 0, none⟩) n n)) 120 (madeCells #[.int .i64 0, .int .i64 0] (n * 2))
    rwa [size_set] at this
  have hT1 : Touch (· = q) w W1 := by rw [hW1]; exact ((Touch.refl (· = q) w).set (p := ⟨q, 3, none⟩) rfl _).more _
  have hs1 : W1.heap.size = w.heap.size + 1 := by rw [hW1, alloc_size, size_set]
  have hq1 : Blk W1 q 48 #[dv, .bool X.down, .bool X.away, .slice (some ⟨w.heap.size, 0, none⟩) n n, .int .i64 X.calls, .int .i64 X.round, fuseV fq] := by
    rw [hW1]; exact (h.head.set_ 3 _).alloc _
  have hFq : F q := hF0 q (.inl rfl)
  have hR1 : Reads W1 w.heap.size 2 A n (planCells l) := ⟨hr.1, fun h0 => by
    obtain ⟨ad, e, hb, hc⟩ := hr.2 h0
    refine ⟨ad, e, hb, fun j u hu => ?_⟩
    rw [← hc j u hu]
    exact World.cell?_of_block (hT1.block _ (by rw [block_of_add]; exact hb) (by rw [block_of_add]; intro e'; exact hA h0 ad e (by rw [e']; exact hFq)))⟩
  obtain ⟨W2, hrun, hBh2, hT2, hs2⟩ := copy_plan W1 w.heap.size n c _ A l _ hBh (size_madeCells _ _) hR1 hl
  rw [hW1] at hrun
  have hq2 : Blk W2 q 48 #[dv, .bool X.down, .bool X.away, .slice (some ⟨w.heap.size, 0, none⟩) n n, .int .i64 X.calls, .int .i64 X.round, fuseV fq] := (hT2.block q (by omega) hqh).trans hq1
  have h3 : w.cell? ⟨q, 3, none⟩ = some pv := h.head.cell 3
  have h3f : w.frozen? ⟨q, 3, none⟩ = false := h.head.frozen 3
  have h4 : W2.cell? ⟨q, 4, none⟩ = some (.int .i64 X.calls) := hq2.cell 4
  have h4f : W2.frozen? ⟨q, 4, none⟩ = false := hq2.frozen 4
  have HT : Hid (Touch F w W2) := Lib.hid ((hT1.mono fun k _ hk => by rw [hk]; exact hFq).trans (hT2.mono fun k _ hk => by subst hk; exact .inr ⟨Nat.le_refl _, by omega⟩))
  have HN : Hid (Wn (W2.setCell ⟨q, 4, none⟩ (.int .i64 0)) q dv (X.arm l) (grow F w W2)) := Lib.hid (by
    have hfar : ∀ k, k ≠ q → k ≠ w.heap.size → k < w.heap.size → (W2.setCell ⟨q, 4, none⟩ (.int .i64 0)).heap[k]? = w.heap[k]? := fun k h1 h2 h3 =>
      (Below.heap_setCell _ _ _ k h1).trans ((hT2.block k (by omega) h2).trans (hT1.block k h3 h1))
    refine ⟨.slice (some ⟨w.heap.size, 0, none⟩) n n, fq, ⟨hq2.set_ 4 _, ?_, h.none_, fun b e => ?_⟩, ?_⟩
    · have e : (X.arm l).plan = l := rfl
      rw [e, hl]
      refine ⟨by rw [planCells_length, hl], .inr ⟨w.heap.size, n, _, rfl, Nat.zero_le _, hBh2.far (p := ⟨q, 4, none⟩) (Ne.symm hqh) _, Nat.le_refl _, by unfold maxLen; omega, by simp [planCells_length, hl], ?_⟩⟩
      rw [List.take_of_length_le (by simp [planCells_length, hl])]
    · obtain ⟨f, hf, hb⟩ := h.some_ b e
      have hbl := hb.lt
      exact ⟨f, hf, (hfar b (hb.ne_ h.head (by decide)) (by omega) hbl).trans hb⟩
    · rintro k (hk | hk | hk)
      · exact .inl (hF0 k (.inl hk))
      · injection hk with hk; subst hk; exact .inr ⟨Nat.le_refl _, by show w.heap.size < W2.heap.size; omega⟩
      · exact .inl (hF0 k (.inr (.inr hk))))
  have HFQ := Lib.hid hFq
  clear hi hz0 hz1 hz2 h hr hl hF0 hA hW1 hBh hT1 hs1 hq1 hFq hR1 hBh2 hT2 hs2 hq2
  go_enter Tryz.func9, Tryz.ntmps9
  go_wp2
  go_end0
  refine ⟨rfl, HN.out.mono fun k hk => ?_, HT.out.set HFQ.out _⟩
  rcases hk with hk | hk
  · exact .inl hk
  · exact .inr ⟨hk.1, by rw [size_set]; exact hk.2⟩

theorem fuse_any (q : Nat) (dv : Value) (X : Wnd) (F : Nat → Prop) (r k i : Int) (w : World) (h : Wn w q dv X F) :
    Calls Tryz.prog 20 #[.pointer (some ⟨q, 0, none⟩), .int .i64 r, .int .i64 k, .int .i64 i] w fun e w' =>
      e = .returned (.tuple #[]) ∧ Wn w' q dv (X.setFuse r k i) (grow F w w') ∧ Touch F w w' := by
  obtain ⟨pv, fq, h, hF⟩ := h
  have h6 : w.cell? ⟨q, 6, none⟩ = some (fuseV fq) := h.head.cell 6
  have h6f : w.frozen? ⟨q, 6, none⟩ = false := h.head.frozen 6
  have hq : F q := hF q (.inl rfl)
  have hql := h.head.lt
  have HA := Lib.hid h
  have HF := Lib.hid hF
  clear h hF
  by_cases hr : 0 ≤ r
  · have HR : Hid (X.setFuse r k i = { X with fuse := some ⟨r, k, i⟩ }) := Lib.hid (by unfold Wnd.setFuse; rw [if_pos hr])
    rw [HR.out]
    go_enter Tryz.func20, Tryz.ntmps20
    go_wp2
    go_end0
    have hT : Touch F w (((w.setCell ⟨q, 6, none⟩ (.pointer none)).setCell ⟨q, 6, none⟩ (.pointer (some ⟨w.heap.size, 0, none⟩))).alloc (.cells #[.int .i64 r, .int .i64 k, .int .i64 i] 98)) := (((Touch.refl _ _).set hq _).set hq _).more _
    refine ⟨rfl, ⟨pv, some w.heap.size, ⟨?_, ?_, fun e => (by cases e), fun b e => ?_⟩, ?_⟩, hT⟩
    · exact ((HA.out.head.set_ 6 (.pointer none)).set_ 6 (.pointer (some ⟨w.heap.size, 0, none⟩))).alloc _
    · refine ownsRow_keep HA.out.plan fun k hk => ?_
      have hkl := (HA.out.plan.lt k hk).2
      have hkq : k ≠ q := fun e => own_blk_ne HA.out.plan HA.out.head (by decide) (by rw [hk, e])
      exact (Below.heap_alloc _ _ k (by rw [size_set, size_set]; exact hkl)).trans ((Below.heap_setCell _ _ _ k hkq).trans (Below.heap_setCell _ _ _ k hkq))
    · injection e with e; subst e
      refine ⟨_, rfl, ?_⟩
      have := Blk.new ((w.setCell ⟨q, 6, none⟩ (.pointer none)).setCell ⟨q, 6, none⟩ (.pointer (some ⟨w.heap.size, 0, none⟩))) 98 #[.int .i64 r, .int .i64 k, .int .i64 i]
      rwa [size_set, size_set] at this
    · rintro j (hj | hj | hj)
      · exact .inl (HF.out j (.inl hj))
      · exact .inl (HF.out j (.inr (.inl hj)))
      · injection hj with hj; subst hj
        exact .inr ⟨Nat.le_refl _, by rw [alloc_size, size_set, size_set]; omega⟩
  · have HR : Hid (X.setFuse r k i = { X with fuse := none }) := Lib.hid (by unfold Wnd.setFuse; rw [if_neg hr])
    rw [HR.out]
    have hr' : r < 0 := by omega
    go_enter Tryz.func20, Tryz.ntmps20
    go_wp2
    go_end0
    refine ⟨rfl, ⟨pv, none, HA.out.unfuse, fun k hk => .inl ?_⟩, Touch.setCell _ _ _ hq⟩
    rcases hk with hk | hk | hk
    · exact HF.out k (.inl hk)
    · exact HF.out k (.inr (.inl hk))
    · cases hk

theorem fuse_nil (r k i : Int) (w : World) : Calls Tryz.prog 20 #[.pointer none, .int .i64 r, .int .i64 k, .int .i64 i] w fun e w' => e = .returned (.tuple #[]) ∧ w = w' := by
  go_enter Tryz.func20, Tryz.ntmps20
  go_wp2
  exact bodyPost_ret (v := .tuple #[]) (by simp only [results, Tryz.results20]; go_simp) rfl ⟨rfl, rfl⟩
end Go.Proofs.YtdiaihpilniikaaGreat
