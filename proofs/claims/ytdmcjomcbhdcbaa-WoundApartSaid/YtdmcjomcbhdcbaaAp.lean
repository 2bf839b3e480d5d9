/- WoundApart: the pure runs of two scripts; four wounds in one memory. -/
import Derived.Test.YtdmcjomcbhdcbaaAc
import Derived.Test.YtdmcjomcbhdcbaaRe
import Derived.Deep.RegionHeld3
import Derived.IntWalk
namespace Go.Proofs.Ytdmcjomcbhdcbaa
open Go.RowKit Go.Maps

theorem script_cells2 {W : World} {b off k : Nat} {x : PStep} {L : SLay} (h : W.rangeAt b (off + k * 11) (stepCells x L).toList) : W.cell? ⟨b, off + k * 11, none⟩ = some (.int .i64 x.kind) ∧ W.cell? ⟨b, off + k * 11 + 1, none⟩ = some (.string x.name) ∧ W.cell? ⟨b, off + k * 11 + 2, none⟩ = some (.string x.to) ∧ W.cell? ⟨b, off + k * 11 + 3, none⟩ = some (.slice L.pd x.data.length L.cd) ∧ W.cell? ⟨b, off + k * 11 + 4, none⟩ = some (.int .i64 x.a) ∧ W.cell? ⟨b, off + k * 11 + 5, none⟩ = some (.int .i64 x.b) ∧ W.cell? ⟨b, off + k * 11 + 6, none⟩ = some (.int .i64 x.c) ∧ W.cell? ⟨b, off + k * 11 + 7, none⟩ = some (.bool x.yes) ∧ W.cell? ⟨b, off + k * 11 + 8, none⟩ = some (.slice L.pp x.plan.length L.cp) ∧ W.cell? ⟨b, off + k * 11 + 9, none⟩ = some (.slice L.pr x.dirs.length L.cr) ∧ W.cell? ⟨b, off + k * 11 + 10, none⟩ = some (.slice L.pc x.cuts.length L.cc) :=
  ⟨h 0 _ rfl, h 1 _ rfl, h 2 _ rfl, h 3 _ rfl, h 4 _ rfl, h 5 _ rfl, h 6 _ rfl, h 7 _ rfl, h 8 _ rfl, h 9 _ rfl, h 10 _ rfl⟩

/-- A wound and its drive behind k steps of a script. -/
def runN (xs : List PStep) (r : Nat) : Nat → Wnd × Drv
  | 0 => (Wnd.new, Drv.new r)
  | k + 1 =>
    match xs[k]? with
    | some x => ((hurt25 (runN xs r k).1 (runN xs r k).2 x).1, (hurt25 (runN xs r k).1 (runN xs r k).2 x).2.1)
    | none => runN xs r k
def outN (xs : List PStep) (r k : Nat) : Said :=
  match xs[k]? with
  | some x => (hurt25 (runN xs r k).1 (runN xs r k).2 x).2.2
  | none => Said.none_
def outs (xs : List PStep) (r i : Nat) : List Said := (List.range i).map (outN xs r)
theorem outs_length (xs : List PStep) (r i : Nat) : (outs xs r i).length = i := by unfold outs; simp
theorem outs_succ (xs : List PStep) (r i : Nat) : outs xs r (i + 1) = outs xs r i ++ [outN xs r i] := by unfold outs; rw [List.range_succ, List.map_append]; rfl
theorem outs_get (xs : List PStep) (r i k : Nat) (hk : k < i) : (outs xs r i)[k]? = some (outN xs r k) := by unfold outs; simp [hk]
theorem runN_succ {xs : List PStep} {r k : Nat} {x : PStep} (hx : xs[k]? = some x) : runN xs r (k + 1) = ((hurt25 (runN xs r k).1 (runN xs r k).2 x).1, (hurt25 (runN xs r k).1 (runN xs r k).2 x).2.1) := by
  rw [runN, hx]
theorem outN_at {xs : List PStep} {r k : Nat} {x : PStep} (hx : xs[k]? = some x) : outN xs r k = (hurt25 (runN xs r k).1 (runN xs r k).2 x).2.2 := by
  unfold outN; rw [hx]

structure RunOk (A : Wnd × Drv) (k : Nat) : Prop where
  wnd : A.1.OkN k
  inv : A.2.Inv k
  room : A.2.room ≤ 400
theorem runN_ok {xs : List PStep} {r : Nat} (hf : ∀ (k : Nat) (x : PStep), xs[k]? = some x → x.Fits) (hr : r ≤ 400) : ∀ k, k ≤ 2199023254000 → RunOk (runN xs r k) k
  | 0, _ => ⟨Wnd.OkN.new, Drv.new_inv _ _ (by omega) (by omega), hr⟩
  | k + 1, hk => by
    have ih := runN_ok hf hr k (by omega)
    cases hx : xs[k]? with
    | none =>
      have e : runN xs r (k + 1) = runN xs r k := by rw [runN, hx]
      rw [e]
      have hm := Nat.mul_le_mul (show k + 1 ≤ 2199023254000 by omega) ih.room
      exact ⟨ih.wnd.up, ih.inv.mono (by omega) (by omega), ih.room⟩
    | some x =>
      rw [runN_succ hx]
      have hm := Nat.mul_le_mul (show k + 1 ≤ 2199023254000 by omega) ih.room
      exact ⟨hurt25_okN ih.wnd _ (hf k x hx), hurt25_inv ih.inv x (by omega), by show (hurt25 _ _ x).2.1.room ≤ 400; rw [hurt25_room]; exact ih.room⟩

theorem hurt25_names (X : Wnd) (S : Drv) (x : PStep) (hS : S.Small) : (hurt25 X S x).2.2.names.length ≤ 2199023254000 ∧ (hurt25 X S x).2.2.files.length ≤ 2199023254000 := by
  by_cases h8 : 1 ≤ x.kind ∧ x.kind ≤ 8
  · rw [hurt25_call h8]
    have hn : (wread X (dnames S.now, (0 : Int))).2.1.length ≤ 2199023254000 := by
      unfold wread
      split
      · show (dnames S.now).length ≤ _; rw [dnames_length]; exact hS.now
      · exact Nat.zero_le _
    unfold hurt8
    repeat' (first | exact ⟨Nat.zero_le _, Nat.zero_le _⟩ | exact ⟨hn, Nat.zero_le _⟩ | split)
  · by_cases h16 : 1 ≤ x.kind ∧ x.kind ≤ 16
    · rcases (show x.kind = 9 ∨ x.kind = 10 ∨ x.kind = 11 ∨ x.kind = 12 ∨ x.kind = 13 ∨ x.kind = 14 ∨ x.kind = 15 ∨ x.kind = 16 by omega) with e | e | e | e | e | e | e | e
      · rw [hurt25_arm e]; exact ⟨Nat.zero_le _, Nat.zero_le _⟩
      · rw [hurt25_calls e]; exact ⟨Nat.zero_le _, Nat.zero_le _⟩
      · rw [hurt25_offline e]; exact ⟨Nat.zero_le _, Nat.zero_le _⟩
      · rw [hurt25_fuse e]; exact ⟨Nat.zero_le _, Nat.zero_le _⟩
      · rw [hurt25_lit e]; exact ⟨Nat.zero_le _, Nat.zero_le _⟩
      · rw [hurt25_rest e]; exact ⟨Nat.zero_le _, Nat.zero_le _⟩
      · rw [hurt25_power e]; exact ⟨Nat.zero_le _, Nat.zero_le _⟩
      · rw [hurt25_on e]; exact ⟨Nat.zero_le _, Nat.zero_le _⟩
    · rw [hurt25_own h16]; exact plain25_names S x hS

/-- Four wounds on their drives, each of its own color; nothing of theirs below h. -/
structure Four (w : World) (h : Nat) (c : Nat → Nat) (q1 p1 q2 p2 q3 p3 q4 p4 : Nat) (A1 A2 A3 A4 : Wnd × Drv) : Prop where
  d1 : WDc w c 1 q1 p1 A1.1 A1.2
  d2 : WDc w c 2 q2 p2 A2.1 A2.2
  d3 : WDc w c 3 q3 p3 A3.1 A3.2
  d4 : WDc w c 4 q4 p4 A4.1 A4.2
  low : ∀ k, k < h → c k = 0
  size : h ≤ w.heap.size
section
variable {w w' : World} {h : Nat} {c c' : Nat → Nat} {q1 p1 q2 p2 q3 p3 q4 p4 i : Nat} {A1 A2 A3 A4 : Wnd × Drv} {u : Value} {sd : Said} {Y : Wnd} {T : Drv}
theorem Four.other (f : Four w h c q1 p1 q2 p2 q3 p3 q4 p4 A1 A2 A3 A4) (hs : Step w w' c c' i) (hi : 5 ≤ i) : Four w' h c' q1 p1 q2 p2 q3 p3 q4 p4 A1 A2 A3 A4 :=
  ⟨f.d1.step hs (by omega), f.d2.step hs (by omega), f.d3.step hs (by omega), f.d4.step hs (by omega), fun k hk => (hs.same k (Nat.lt_of_lt_of_le hk f.size)).trans (f.low k hk), Nat.le_trans f.size hs.touch.size⟩
theorem Four.below_ (f : Four w h c q1 p1 q2 p2 q3 p3 q4 p4 A1 A2 A3 A4) (hs : Step w w' c c' i) (hi : i ≠ 0) : Below h w w' :=
  hs.below f.size fun k hk e => hi ((f.low k hk).symm.trans e).symm
theorem Four.s1 (f : Four w h c q1 p1 q2 p2 q3 p3 q4 p4 A1 A2 A3 A4) (hm : Mid w w' q1 p1 (Col w c 1) u sd Y T) :
    ∃ c' cs, u = .agg cs ∧ Step w w' c c' 1 ∧ Four w' h c' q1 p1 q2 p2 q3 p3 q4 p4 (Y, T) A2 A3 A4 ∧ SaidC w' c' cs sd := by
  obtain ⟨c', cs, hu, hs, hw, hsc, _⟩ := hm.colors
  exact ⟨c', cs, hu, hs, ⟨hw, f.d2.step hs (by omega), f.d3.step hs (by omega), f.d4.step hs (by omega), fun k hk => (hs.same k (Nat.lt_of_lt_of_le hk f.size)).trans (f.low k hk), Nat.le_trans f.size hs.touch.size⟩, hsc⟩
theorem Four.s2 (f : Four w h c q1 p1 q2 p2 q3 p3 q4 p4 A1 A2 A3 A4) (hm : Mid w w' q2 p2 (Col w c 2) u sd Y T) :
    ∃ c' cs, u = .agg cs ∧ Step w w' c c' 2 ∧ Four w' h c' q1 p1 q2 p2 q3 p3 q4 p4 A1 (Y, T) A3 A4 ∧ SaidC w' c' cs sd := by
  obtain ⟨c', cs, hu, hs, hw, hsc, _⟩ := hm.colors
  exact ⟨c', cs, hu, hs, ⟨f.d1.step hs (by omega), hw, f.d3.step hs (by omega), f.d4.step hs (by omega), fun k hk => (hs.same k (Nat.lt_of_lt_of_le hk f.size)).trans (f.low k hk), Nat.le_trans f.size hs.touch.size⟩, hsc⟩
theorem Four.s3 (f : Four w h c q1 p1 q2 p2 q3 p3 q4 p4 A1 A2 A3 A4) (hm : Mid w w' q3 p3 (Col w c 3) u sd Y T) :
    ∃ c' cs, u = .agg cs ∧ Step w w' c c' 3 ∧ Four w' h c' q1 p1 q2 p2 q3 p3 q4 p4 A1 A2 (Y, T) A4 ∧ SaidC w' c' cs sd := by
  obtain ⟨c', cs, hu, hs, hw, hsc, _⟩ := hm.colors
  exact ⟨c', cs, hu, hs, ⟨f.d1.step hs (by omega), f.d2.step hs (by omega), hw, f.d4.step hs (by omega), fun k hk => (hs.same k (Nat.lt_of_lt_of_le hk f.size)).trans (f.low k hk), Nat.le_trans f.size hs.touch.size⟩, hsc⟩
theorem Four.s4 (f : Four w h c q1 p1 q2 p2 q3 p3 q4 p4 A1 A2 A3 A4) (hm : Mid w w' q4 p4 (Col w c 4) u sd Y T) :
    ∃ c' cs, u = .agg cs ∧ Step w w' c c' 4 ∧ Four w' h c' q1 p1 q2 p2 q3 p3 q4 p4 A1 A2 A3 (Y, T) ∧ SaidC w' c' cs sd := by
  obtain ⟨c', cs, hu, hs, hw, hsc, _⟩ := hm.colors
  exact ⟨c', cs, hu, hs, ⟨f.d1.step hs (by omega), f.d2.step hs (by omega), f.d3.step hs (by omega), hw, fun k hk => (hs.same k (Nat.lt_of_lt_of_le hk f.size)).trans (f.low k hk), Nat.le_trans f.size hs.touch.size⟩, hsc⟩
end

/-- An answer is put behind the kept ones. -/
theorem app_step {w w3 : World} {c : Nat → Nat} {col n : Nat} {va v' : Value} {l : List Said} {us : List (Array Value)} {cs : Array Value} {sd : Said} (hcol : col ≠ 5) (hn : l.length = n)
    (hul : us.length = l.length) (hrow : RowC w c col 41 6 va n (cells6 us)) (hd : ∀ (k : Nat) (x : Said) (u : Array Value), l[k]? = some x → us[k]? = some u → SaidC w c u x) (hS : SaidC w c cs sd)
    (hown : w3.ownsRow 0 41 6 v' (n + 1) (cells6 us ++ cs.toList)) (hg : (w.alloc (.cells cs 41)).grownBy w3 va.ownBlock)
    (hat : v'.ownBlock = va.ownBlock ∨ v'.ownBlock = some (w.heap.size + 1)) :
    ∃ c3, Step w w3 c c3 col ∧ OutsC w3 c3 col v' (l ++ [sd]) := by
  have hs : Step w w3 c (fun k => if k < w.heap.size then c k else col) col := by
    refine ⟨(Touch.alloc (F := Col w c col) w _).trans (Touch.of_grown hg fun k hk => .inl ⟨hrow.2 k hk, (hrow.1.lt k hk).2⟩), fun k hk => if_pos hk⟩
  refine ⟨_, hs, us ++ [cs], by simp [hul], ⟨?_, ?_⟩, ?_⟩
  · have e : cells6 (us ++ [cs]) = cells6 us ++ cs.toList := by unfold cells6; rw [List.flatMap_append]; simp
    rw [e, List.length_append, hn]
    exact hown
  · intro k hk
    simp only
    rcases hat with h | h
    · rw [h] at hk
      rw [if_pos (hrow.1.lt k hk).2]; exact hrow.2 k hk
    · rw [h] at hk
      injection hk with hk
      rw [if_neg (by omega)]
  · intro k x u hx hu
    by_cases hk : k < l.length
    · rw [List.getElem?_append_left hk] at hx
      rw [List.getElem?_append_left (by omega)] at hu
      exact (hd k x u hx hu).step hs (Ne.symm hcol)
    · rw [List.getElem?_append_right (by omega)] at hx
      rw [List.getElem?_append_right (by omega)] at hu
      rw [hul] at hu
      have hz : k - l.length = 0 := by
        rcases Nat.eq_zero_or_pos (k - l.length) with h0 | h0
        · exact h0
        · rw [List.getElem?_eq_none (by simp; omega)] at hx; cases hx
      rw [hz] at hx hu
      simp at hx hu
      subst hx hu
      exact hS.step hs (Ne.symm hcol)

theorem reads_spot {w : World} {B size n : Nat} {A : Option Addr} {xs : List Value} (h : Reads w B size A n xs) (h0 : 0 < n) (hs : 0 < size) : ∃ b off, A = some ⟨b, off, none⟩ ∧ b < B ∧ ∀ j u, xs[j]? = some u → w.cell? ⟨b, off + j, none⟩ = some u := by
  obtain ⟨ad, e, hb, hc⟩ := h.2 h0
  have hl : 0 < xs.length := by rw [h.1]; exact Nat.mul_pos h0 hs
  have e0 := hc 0 xs[0] (List.getElem?_eq_getElem hl)
  obtain ⟨b, off, spot⟩ := ad
  have ha : (⟨b, off, spot⟩ : Addr).add 0 = ⟨b, off, spot⟩ := by unfold Addr.add; simp
  rw [ha] at e0
  cases spot with
  | none => exact ⟨b, off, e, hb, fun j u hu => by rw [← add_plain]; exact hc j u hu⟩
  | some s =>
    unfold World.cell? at e0
    split at e0 <;> simp_all

theorem said_info : (Try.prog.info? 41).map (fun i => (i.zero, i.size, i.bytes)) = some (some (.agg zeroSaid), 6, 96) := by kernel_rfl

def twoCells (n : Int) (aA : Option Addr) (nA cA : Nat) (aC : Option Addr) (nC cC : Nat) (aO : Option Addr) (nO cO : Nat) : Array Value := #[.int .i64 n, .slice aA nA cA, .slice aC nC cC, .slice aO nO cO]

/-- What stands at the head of a round of the first loop. -/
structure ApHead (w : World) (h : Nat) (q1 p1 q2 p2 q3 p3 q4 p4 : Nat) (xs ys : List PStep) (r : Nat) (va vb : Value) (i j : Nat) : Prop where
  ex : ∃ c, Four w h c q1 p1 q2 p2 q3 p3 q4 p4 (runN xs r i) (runN ys r j) (runN xs r 0) (runN ys r 0) ∧ OutsC w c 6 va (outs xs r i) ∧ OutsC w c 7 vb (outs ys r j)
theorem OutsC.own {w : World} {c : Nat → Nat} {col n : Nat} {v : Value} {l : List Said} (h : OutsC w c col v l) (hn : l.length = n) : ∃ us, us.length = l.length ∧ RowC w c col 41 6 v n (cells6 us) ∧ ∀ (k : Nat) (x : Said) (u : Array Value), l[k]? = some x → us[k]? = some u → SaidC w c u x := by
  subst hn; exact h
theorem cells6_one {cs : Array Value} {w : World} {c : Nat → Nat} {x : Said} (h : SaidC w c cs x) : ∀ u ∈ cs.toList, u.oneCell' = true := by
  obtain ⟨d, n, f, rfl, h1, h2, h3⟩ := h
  obtain ⟨a1, b1, rfl, _⟩ := own_shape h1.1
  obtain ⟨a2, b2, rfl, _⟩ := own_shape h2.1
  obtain ⟨vals, _, h3, _⟩ := h3
  obtain ⟨a3, b3, rfl, _⟩ := own_shape h3.1
  intro u hu
  simp at hu
  rcases hu with rfl | rfl | rfl | rfl | rfl | rfl <;> rfl

theorem OutsC.at_ {w : World} {c : Nat → Nat} {col n cc k : Nat} {a : Option Addr} {l : List Said} {x : Said} (h : OutsC w c col (.slice a n cc) l) (hn : l.length = n) (hx : l[k]? = some x) :
    ∃ g d m f, a = some ⟨g, 0, none⟩ ∧ g < w.heap.size ∧ c g = col ∧ (w.cell? ⟨g, k * 6, none⟩ = some (.int .i64 x.e) ∧ w.cell? ⟨g, k * 6 + 1, none⟩ = some d ∧ w.cell? ⟨g, k * 6 + 2, none⟩ = some m ∧ w.cell? ⟨g, k * 6 + 3, none⟩ = some f ∧ w.cell? ⟨g, k * 6 + 4, none⟩ = some (.int .i64 x.n) ∧ w.cell? ⟨g, k * 6 + 5, none⟩ = some (.bool x.yes)) ∧
      SaidC w c #[.int .i64 x.e, d, m, f, .int .i64 x.n, .bool x.yes] x := by
  obtain ⟨us, hul, hrow, hea⟩ := h.own hn
  have hk : k < l.length := by
    rcases Nat.lt_or_ge k l.length with h | h
    · exact h
    · rw [List.getElem?_eq_none h] at hx; cases hx
  obtain ⟨u, hu⟩ : ∃ u, us[k]? = some u := ⟨_, List.getElem?_eq_getElem (by omega)⟩
  have hs := hea k x u hx hu
  have h6 : ∀ v ∈ us, v.toList.length = 6 := fun v hv => by
    obtain ⟨j, hj, e⟩ := List.getElem_of_mem hv
    have hj2 : j < l.length := by omega
    exact (hea j l[j] v (List.getElem?_eq_getElem hj2) (by rw [List.getElem?_eq_getElem hj, e])).size
  have hget := cells6_get us k u h6 hu
  obtain ⟨g, cap, hv, _, hglt⟩ := hrow.1.form (by omega)
  have ha : a = some ⟨g, 0, none⟩ := by injection hv
  subst ha
  have hcell : ∀ j y, j < 6 → u[j]? = some y → w.cell? ⟨g, k * 6 + j, none⟩ = some y := fun j y hj hy => by
    have := hrow.1.cells (g := g) rfl (k * 6 + j) y ((hget j hj).trans hy)
    simpa [add_plain] using this
  obtain ⟨d, m, f, rfl, r1, r2, r3⟩ := hs
  exact ⟨g, d, m, f, rfl, hglt, hrow.2 g rfl, ⟨hcell 0 _ (by omega) rfl, hcell 1 _ (by omega) rfl, hcell 2 _ (by omega) rfl, hcell 3 _ (by omega) rfl, hcell 4 _ (by omega) rfl, hcell 5 _ (by omega) rfl⟩, d, m, f, rfl, r1, r2, r3⟩
/-- What stands at the head of a round of the later loops. -/
structure ApTail (w : World) (h : Nat) (q1 p1 q2 p2 q3 p3 q4 p4 : Nat) (xs ys : List PStep) (r : Nat) (va vb : Value) (nA nC i j : Nat) : Prop where
  ex : ∃ c, Four w h c q1 p1 q2 p2 q3 p3 q4 p4 (runN xs r nA) (runN ys r nC) (runN xs r i) (runN ys r j) ∧ OutsC w c 6 va (outs xs r nA) ∧ OutsC w c 7 vb (outs ys r nC)
theorem lt_of_block {v w : World} {g : Nat} (h : v.heap[g]? = w.heap[g]?) (hg : g < w.heap.size) : g < v.heap.size := by
  rcases Nat.lt_or_ge g v.heap.size with h1 | h1
  · exact h1
  · rw [Array.getElem?_eq_none h1, Array.getElem?_eq_getElem hg] at h; cases h
theorem OutsC.drewn' {w : World} {c : Nat → Nat} {col : Nat} {v : Value} {l : List Said} (h : OutsC w c col v l) : OutsC w.drew c col v l := h
theorem Four.drewn {w : World} {h : Nat} {c : Nat → Nat} {q1 p1 q2 p2 q3 p3 q4 p4 : Nat} {A1 A2 A3 A4 : Wnd × Drv} (f : Four w h c q1 p1 q2 p2 q3 p3 q4 p4 A1 A2 A3 A4) : Four w.drew h c q1 p1 q2 p2 q3 p3 q4 p4 A1 A2 A3 A4 :=
  f.other (i := 5) (Step.of_below (below_drewN (Below.refl _ _) 1) c fun _ _ => rfl) (by omega)

set_option maxRecDepth 100000 in
set_option maxHeartbeats 8000000 in
theorem woundApart_walk (n : Int) (aA : Option Addr) (nA cA : Nat) (xs : List PStep) (aC : Option Addr) (nC cC : Nat) (ys : List PStep) (aO : Option Addr) (nO cO : Nat) (ords : List Bool) (w : World)
    (hx : ScriptAt w w.heap.size aA nA xs) (hlA : nA * 168 ≤ 140737488351232) (hy : ScriptAt w w.heap.size aC nC ys) (hlC : nC * 168 ≤ 140737488351232)
    (ho : Reads w w.heap.size 1 aO nO (ords.map boolV)) (hlO : nO ≤ 140737488351232) :
    Calls Try.prog 9 #[.agg (twoCells n aA nA cA aC nC cC aO nO cO)] w fun e w' => e = .returned (.bool true) ∧ Below w.heap.size w w' := by
  obtain ⟨W0, hW0⟩ : ∃ W, W = w.alloc (.cells (twoCells n aA nA cA aC nC cC aO nO cO) 83) := ⟨_, rfl⟩
  have hB0 : Below w.heap.size w W0 := by rw [hW0]; exact (Below.refl _ _).alloc (Nat.le_refl _) _
  have hs0 : W0.heap.size = w.heap.size + 1 := by rw [hW0, alloc_size]
  have HJ : Hid (Blk W0 w.heap.size 83 (twoCells n aA nA cA aC nC cC aO nO cO)) := Lib.hid (by rw [hW0]; exact Blk.new _ _ _)
  have HB0 := Lib.hid hB0
  have hsl : w.heap.size < W0.heap.size := by omega
  have j0 : W0.cell? ⟨w.heap.size, 0, none⟩ = some (.int .i64 n) := HJ.out.cell 0
  have j1 : W0.cell? ⟨w.heap.size, 1, none⟩ = some (.slice aA nA cA) := HJ.out.cell 1
  have j2 : W0.cell? ⟨w.heap.size, 2, none⟩ = some (.slice aC nC cC) := HJ.out.cell 2
  have j3 : W0.cell? ⟨w.heap.size, 3, none⟩ = some (.slice aO nO cO) := HJ.out.cell 3
  have HX := Lib.hid (hx.below hB0)
  have HY := Lib.hid (hy.below hB0)
  have HO := Lib.hid (ho.below hB0)
  rw [hW0] at j0 j1 j2 j3
  unfold twoCells at hW0 j0 j1 j2 j3
  have HW0 := Lib.hid hW0
  clear hx hy ho hB0 hs0 hW0
  have hr := roomI_bd n
  obtain ⟨r, hrr⟩ : ∃ r, r = roomI n := ⟨_, rfl⟩
  rw [← hrr] at hr
  have HRR := Lib.hid hrr
  clear hrr
  have HFX : Hid (∀ (k : Nat) (x : PStep), xs[k]? = some x → x.Fits) := Lib.hid fun k x hk => by obtain ⟨_, _, _, _, _, _, _, hf⟩ := HX.out.get k x hk; exact hf
  have HFY : Hid (∀ (k : Nat) (x : PStep), ys[k]? = some x → x.Fits) := Lib.hid fun k x hk => by obtain ⟨_, _, _, _, _, _, _, hf⟩ := HY.out.get k x hk; exact hf
  unfold twoCells
  go_enter Try.func9, Try.ntmps9
  go_wp2_with fail
  rw [← HW0.out]
  refine (room_any n W0).mono ?_
  rintro e w' ⟨rfl, rfl⟩
  rw [← HRR.out]
  go_wp2_with fail
  refine (newb_any r _ (by omega) (by omega)).mono ?_
  rintro e v1 ⟨p1, rfl, hd, hb⟩
  have HD1 := Lib.hid hd
  have HA1 := Lib.hid hb
  have hsA1 := hb.size
  clear hd hb
  go_wp2_with fail
  refine (wnewb_any W0.heap.size p1 _ v1 hsA1 HD1.out).mono ?_
  rintro e w1 ⟨q1, rfl, hw, hb⟩
  have HB1 : Hid (Below W0.heap.size W0 w1) := Lib.hid (HA1.out.trans (hb.mono hsA1))
  have HW1 : Hid (WDb w1 W0.heap.size q1 p1 Wnd.new (Drv.new r.toNat)) := Lib.hid hw
  have hsB1 := HB1.out.size
  have j0 : w1.cell? ⟨w.heap.size, 0, none⟩ = some (.int .i64 n) := (HB1.out.cell (p := ⟨w.heap.size, 0, none⟩) (by show w.heap.size < _; omega)).trans (HJ.out.cell 0)
  clear hw hb
  go_wp2_with fail
  refine (room_any n w1).mono ?_
  rintro e w' ⟨rfl, rfl⟩
  rw [← HRR.out]
  go_wp2_with fail
  refine (newb_any r _ (by omega) (by omega)).mono ?_
  rintro e v2 ⟨p2, rfl, hd, hb⟩
  have HD2 := Lib.hid hd
  have HA2 := Lib.hid hb
  have hsA2 := hb.size
  clear hd hb
  go_wp2_with fail
  refine (wnewb_any w1.heap.size p2 _ v2 hsA2 HD2.out).mono ?_
  rintro e w2 ⟨q2, rfl, hw, hb⟩
  have HB2 : Hid (Below w1.heap.size w1 w2) := Lib.hid (HA2.out.trans (hb.mono hsA2))
  have HW2 : Hid (WDb w2 w1.heap.size q2 p2 Wnd.new (Drv.new r.toNat)) := Lib.hid hw
  have hsB2 := HB2.out.size
  have j0 : w2.cell? ⟨w.heap.size, 0, none⟩ = some (.int .i64 n) := (HB2.out.cell (p := ⟨w.heap.size, 0, none⟩) (by show w.heap.size < _; omega)).trans j0
  clear hw hb
  go_wp2_with fail
  refine (room_any n w2).mono ?_
  rintro e w' ⟨rfl, rfl⟩
  rw [← HRR.out]
  go_wp2_with fail
  refine (newb_any r _ (by omega) (by omega)).mono ?_
  rintro e v3 ⟨p3, rfl, hd, hb⟩
  have HD3 := Lib.hid hd
  have HA3 := Lib.hid hb
  have hsA3 := hb.size
  clear hd hb
  go_wp2_with fail
  refine (wnewb_any w2.heap.size p3 _ v3 hsA3 HD3.out).mono ?_
  rintro e w3 ⟨q3, rfl, hw, hb⟩
  have HB3 : Hid (Below w2.heap.size w2 w3) := Lib.hid (HA3.out.trans (hb.mono hsA3))
  have HW3 : Hid (WDb w3 w2.heap.size q3 p3 Wnd.new (Drv.new r.toNat)) := Lib.hid hw
  have hsB3 := HB3.out.size
  have j0 : w3.cell? ⟨w.heap.size, 0, none⟩ = some (.int .i64 n) := (HB3.out.cell (p := ⟨w.heap.size, 0, none⟩) (by show w.heap.size < _; omega)).trans j0
  clear hw hb
  go_wp2_with fail
  refine (room_any n w3).mono ?_
  rintro e w' ⟨rfl, rfl⟩
  rw [← HRR.out]
  go_wp2_with fail
  refine (newb_any r _ (by omega) (by omega)).mono ?_
  rintro e v4 ⟨p4, rfl, hd, hb⟩
  have HD4 := Lib.hid hd
  have HA4 := Lib.hid hb
  have hsA4 := hb.size
  clear hd hb
  go_wp2_with fail
  refine (wnewb_any w3.heap.size p4 _ v4 hsA4 HD4.out).mono ?_
  rintro e w4 ⟨q4, rfl, hw, hb⟩
  have HB4 : Hid (Below w3.heap.size w3 w4) := Lib.hid (HA4.out.trans (hb.mono hsA4))
  have HW4 : Hid (WDb w4 w3.heap.size q4 p4 Wnd.new (Drv.new r.toNat)) := Lib.hid hw
  have hsB4 := HB4.out.size
  clear hw hb j0 j1 j2 j3
  go_wp2_with fail
  refine (known_any w4).mono ?_
  rintro e w5 ⟨rfl, hb5⟩
  obtain ⟨c, hc⟩ : ∃ c : Nat → Nat, c = fun k => if k < W0.heap.size then 0 else if k < w1.heap.size then 1 else if k < w2.heap.size then 2 else if k < w3.heap.size then 3 else if k < w4.heap.size then 4 else 5 := ⟨_, rfl⟩
  have hB0W : Below W0.heap.size W0 w5 := HB1.out.trans ((HB2.out.mono hsB1).trans ((HB3.out.mono (Nat.le_trans hsB1 hsB2)).trans ((HB4.out.mono (Nat.le_trans hsB1 (Nat.le_trans hsB2 hsB3))).trans (hb5.mono (by omega)))))
  have HF : Hid (ApHead w5 W0.heap.size q1 p1 q2 p2 q3 p3 q4 p4 xs ys r.toNat (.slice none 0 0) (.slice none 0 0) 0 0) := Lib.hid (by
    have hs5 := hb5.size
    have hs45 : w4.heap.size ≤ w5.heap.size := hs5
    have e1 : WD w5 q1 p1 Wnd.new (Drv.new r.toNat) (fun i => W0.heap.size ≤ i ∧ i < w1.heap.size) := WD.below (WD.below (WD.below (WD.below HW1.out HB2.out) HB3.out) HB4.out) hb5
    have e2 : WD w5 q2 p2 Wnd.new (Drv.new r.toNat) (fun i => w1.heap.size ≤ i ∧ i < w2.heap.size) := WD.below (WD.below (WD.below HW2.out HB3.out) HB4.out) hb5
    have e3 : WD w5 q3 p3 Wnd.new (Drv.new r.toNat) (fun i => w2.heap.size ≤ i ∧ i < w3.heap.size) := WD.below (WD.below HW3.out HB4.out) hb5
    have e4 : WD w5 q4 p4 Wnd.new (Drv.new r.toNat) (fun i => w3.heap.size ≤ i ∧ i < w4.heap.size) := WD.below HW4.out hb5
    refine ⟨c, ⟨e1.mono fun k hk => ⟨?_, by omega⟩, e2.mono fun k hk => ⟨?_, by omega⟩, e3.mono fun k hk => ⟨?_, by omega⟩, e4.mono fun k hk => ⟨?_, by omega⟩, fun k hk => by rw [hc]; simp only; rw [if_pos hk], by omega⟩, OutsC.nil _ _ _, OutsC.nil _ _ _⟩
    · rw [hc]; simp only; rw [if_neg (by omega), if_pos (by omega)]
    · rw [hc]; simp only; rw [if_neg (by omega), if_neg (by omega), if_pos (by omega)]
    · rw [hc]; simp only; rw [if_neg (by omega), if_neg (by omega), if_neg (by omega), if_pos (by omega)]
    · rw [hc]; simp only; rw [if_neg (by omega), if_neg (by omega), if_neg (by omega), if_neg (by omega), if_pos (by omega)])
  have HB5 := Lib.hid hB0W
  clear hc hb5 hB0W
  clear c
  go_wp2
  obtain ⟨i5, hi5, hz0, hz1, hz2⟩ := info_parts said_info
  go_loopw [10, 11, 12, 13, 14] (fun a b si sj sk wr => ∃ (i j : Nat) (aa : Option Addr) (ca : Nat) (ab : Option Addr) (cb : Nat), a = .slice aa i ca ∧ b = .slice ab j cb ∧ i ≤ nA ∧ j ≤ nC ∧ si = .int .i64 i ∧ sj = .int .i64 j ∧ sk = .int .i64 ((i + j : Nat) : Int) ∧ ApHead wr W0.heap.size q1 p1 q2 p2 q3 p3 q4 p4 xs ys r.toNat a b i j ∧ Below W0.heap.size W0 wr) (fun _ _ si sj _ _ => nA + nC - ((intOf si).toNat + (intOf sj).toNat))
  case atStart => exact ⟨0, 0, none, 0, none, 0, rfl, rfl, Nat.zero_le _, Nat.zero_le _, rfl, rfl, rfl, HF.out, HB5.out⟩
  case round =>
    obtain ⟨i, j, aa, ca, ab, cb, rfl, rfl, hi, hj, rfl, rfl, rfl, ⟨c, hfo, hoa, hob⟩, hbr⟩ := hrel
    have HFO := Lib.hid hfo
    have HOA := Lib.hid hoa
    have HOB := Lib.hid hob
    have HBR := Lib.hid hbr
    have hszr := hbr.size
    clear hfo hoa hob hbr
    by_cases h1 : i < nA
    · by_cases h2 : j < nC
      · by_cases h3 : i + j < nO
        · obtain ⟨bo, offo, hao, hbo, hcell⟩ := reads_spot HO.out (by omega) (by omega)
          subst hao
          obtain ⟨ob, hob⟩ : ∃ ob, ords[i + j]? = some ob := ⟨_, List.getElem?_eq_getElem (by have := HO.out.1; simp at this; omega)⟩
          have z0 : wr.cell? ⟨bo, offo + (i + j), none⟩ = some (.bool ob) := by
            rw [World.cell?_of_block (HBR.out.block bo (by omega))]
            exact hcell (i + j) _ (by rw [List.getElem?_map, hob]; rfl)
          clear hcell hob
          cases ob with
          | true =>
            obtain ⟨x, hxk⟩ : ∃ x, xs[i]? = some x := ⟨_, List.getElem?_eq_getElem (by rw [HX.out.len]; omega)⟩
            obtain ⟨b8, off8, L, hpa, hbl, hra0, hsa, hfi⟩ := HX.out.get i x hxk
            subst hpa
            have HSA := Lib.hid hsa
            have HFC := Lib.hid hfi
            have HRN := Lib.hid (runN_succ (r := r.toNat) hxk)
            have HON := Lib.hid (outN_at (r := r.toNat) hxk)
            have HRK := Lib.hid (runN_ok (r := r.toNat) HFX.out (by omega) i (by omega))
            have hkn : i ≤ 2199023254000 := by omega
            have HSM := Lib.hid (HRK.out.inv.small hkn)
            have hbl0 : b8 < W0.heap.size := by omega
            obtain ⟨y0, y1, y2, y3, y4, y5, y6, y7, y8, y9, y10⟩ := script_cells2 (rangeAt_far hra0 (HBR.out.block b8 hbl0))
            have hap : 0 < x.plan.length → ∀ ad, L.pp = some ad → ¬(Col wr c 1 ad.block) := fun h0 ad e hf => by
              obtain ⟨ad', e', hb', _⟩ := HSA.out.plan.2 h0
              rw [e] at e'; injection e' with e'; subst e'
              have h0 := HFO.out.low ad.block (by omega)
              rw [hf.1] at h0; omega
            have HAP := Lib.hid hap
            have HCV : Hid (stepCells x L = #[.int .i64 x.kind, .string x.name, .string x.to, .slice L.pd x.data.length L.cd, .int .i64 x.a, .int .i64 x.b, .int .i64 x.c, .bool x.yes, .slice L.pp x.plan.length L.cp, .slice L.pr x.dirs.length L.cr, .slice L.pc x.cuts.length L.cc]) := Lib.hid rfl
            clear hra0 hsa hfi hxk hap
            go_wp2_with fail
            rw [← HCV.out]
            refine (hurt25S_any q1 p1 _ _ i (Col wr c 1) x L wr w.heap.size HFC.out HFO.out.d1 (fun k hk => hk.2) (HRK.out.wnd.ok (by omega)) HRK.out.inv hkn (by omega) (HSA.out.far fun k hk => HBR.out.block k (by omega)) HAP.out).mono ?_
            rintro e v8 ⟨u, rfl, hm⟩
            rw [← HON.out] at hm
            obtain ⟨c8, cs, rfl, hst, hfo, hsc⟩ := HFO.out.s1 hm
            rw [← HRN.out] at hfo
            have HST := Lib.hid hst
            have HF8 := Lib.hid hfo
            have HSC := Lib.hid hsc
            have HB8 : Hid (Below W0.heap.size W0 v8) := Lib.hid (HBR.out.trans (HFO.out.below_ hst (by omega)))
            have HOA8 := Lib.hid (HOA.out.step hst (by omega) (by omega))
            have HOB8 := Lib.hid (HOB.out.step hst (by omega) (by omega))
            obtain ⟨sd, hsd⟩ : ∃ sd, sd = outN xs r.toNat i := ⟨_, rfl⟩
            rw [← hsd] at HSC hsc
            have HSD := Lib.hid hsd
            obtain ⟨dv, mv, fv, hcs, r1, r2, r3⟩ := hsc
            obtain ⟨da, dc, rfl, _⟩ := own_shape r1.1
            obtain ⟨ma, mc, rfl, _⟩ := own_shape r2.1
            obtain ⟨vals, _, r3, _⟩ := r3
            obtain ⟨fa, fc, rfl, _⟩ := own_shape r3.1
            obtain ⟨E, hE⟩ : ∃ E, E = sd.e := ⟨_, rfl⟩
            obtain ⟨NN, hNN⟩ : ∃ E, E = sd.n := ⟨_, rfl⟩
            obtain ⟨YY, hYY⟩ : ∃ E, E = sd.yes := ⟨_, rfl⟩
            obtain ⟨dn, hdn⟩ : ∃ E, E = sd.data.length := ⟨_, rfl⟩
            obtain ⟨mn, hmn⟩ : ∃ E, E = sd.names.length := ⟨_, rfl⟩
            obtain ⟨fn, hfn⟩ : ∃ E, E = sd.files.length := ⟨_, rfl⟩
            rw [← hE, ← hNN, ← hYY, ← hdn, ← hmn, ← hfn] at hcs
            subst hcs
            obtain ⟨us, hul, hrow, hea⟩ := HOA8.out.own (outs_length _ _ i)
            have HUL := Lib.hid hul
            have HROW := Lib.hid hrow
            have HEA := Lib.hid hea
            have hbV : Below v8.heap.size v8 (v8.alloc (.cells #[.int .i64 E, .slice da dn dc, .slice ma mn mc, .slice fa fn fc, .int .i64 NN, .bool YY] 41)) := (Below.refl _ _).alloc (Nat.le_refl _) _
            have HBV := Lib.hid hbV
            have HOW := Lib.hid (ownsRow_below hrow.1 hbV)
            have HRD : Hid (Reads (v8.alloc (.cells #[.int .i64 E, .slice da dn dc, .slice ma mn mc, .slice fa fn fc, .int .i64 NN, .bool YY] 41)) (v8.heap.size + 1) 6 (some ⟨v8.heap.size, 0, none⟩) 1 [.int .i64 E, .slice da dn dc, .slice ma mn mc, .slice fa fn fc, .int .i64 NN, .bool YY]) := Lib.hid (reads_blk (blk_last v8 v8.heap.size _ _ rfl) (Nat.lt_succ_self _) rfl)
            have HONE := Lib.hid (cells6_one HSC.out)
            have h63 : i + 1 ≤ maxLen := by unfold maxLen; omega
            have h40 : (i + 1) * 96 ≤ 140737488355328 := by omega
            have H63 := Lib.hid h63
            have H40 := Lib.hid h40
            have hFN := HF8.out.size
            clear hm hst hfo r1 r2 r3 hE hNN hYY hdn hmn hfn hul hrow hea hbV h63 h40 hsd y0 y1 y2 y3 y4 y5 y6 y7 y8 y9 y10
            go_wp2_with (at_builtin; go_loud (refine wpList_append_any _ rfl _ _ 84 rfl 0 41 i5 _ 6 96 Try.underlying84 hi5 hz0 hz1 hz2 rfl (by omega) (.slice aa i ca) i (cells6 us) rfl HOW.out (v8.heap.size + 1) (some ⟨v8.heap.size, 0, none⟩) 1 1 _ rfl HRD.out HONE.out H63.out H40.out (Nat.zero_le _) ?_); intro v9 w9 hown9 hg9 hat9; have HOWN9 := Lib.hid hown9; have HG9 := Lib.hid hg9; have HAT9 := Lib.hid hat9; clear hown9 hg9 hat9)
            obtain ⟨a9, ca9, hv9, _⟩ := own_shape HOWN9.out
            subst hv9
            obtain ⟨c9, hst9, hout9⟩ := app_step (col := 6) (by omega) (outs_length _ _ i) HUL.out HROW.out HEA.out HSC.out HOWN9.out HG9.out (by have := HAT9.out; rwa [alloc_size] at this)
            rw [HSD.out, ← outs_succ] at hout9
            have HF9 := Lib.hid (HF8.out.other hst9 (by omega))
            have HB9 : Hid (Below W0.heap.size W0 w9) := Lib.hid (HB8.out.trans (HF8.out.below_ hst9 (by omega)))
            have HOX := Lib.hid (HOB8.out.step hst9 (by omega) (by omega))
            have HOY := Lib.hid hout9
            clear hst9 hout9
            go_wp2
            go_roundw
            case rel => exact ⟨i + 1, j, _, _, _, _, rfl, rfl, by omega, by omega, by go_num, rfl, (by go_num), ⟨⟨c9, HF9.out, HOY.out, HOX.out⟩⟩, HB9.out⟩
            case measure => simp [intOf]; omega
          | false =>
            obtain ⟨x, hxk⟩ : ∃ x, ys[j]? = some x := ⟨_, List.getElem?_eq_getElem (by rw [HY.out.len]; omega)⟩
            obtain ⟨b8, off8, L, hpa, hbl, hra0, hsa, hfi⟩ := HY.out.get j x hxk
            subst hpa
            have HSA := Lib.hid hsa
            have HFC := Lib.hid hfi
            have HRN := Lib.hid (runN_succ (r := r.toNat) hxk)
            have HON := Lib.hid (outN_at (r := r.toNat) hxk)
            have HRK := Lib.hid (runN_ok (r := r.toNat) HFY.out (by omega) j (by omega))
            have hkn : j ≤ 2199023254000 := by omega
            have HSM := Lib.hid (HRK.out.inv.small hkn)
            have hbl0 : b8 < W0.heap.size := by omega
            obtain ⟨y0, y1, y2, y3, y4, y5, y6, y7, y8, y9, y10⟩ := script_cells2 (rangeAt_far hra0 (HBR.out.block b8 hbl0))
            have hap : 0 < x.plan.length → ∀ ad, L.pp = some ad → ¬(Col wr c 2 ad.block) := fun h0 ad e hf => by
              obtain ⟨ad', e', hb', _⟩ := HSA.out.plan.2 h0
              rw [e] at e'; injection e' with e'; subst e'
              have h0 := HFO.out.low ad.block (by omega)
              rw [hf.1] at h0; omega
            have HAP := Lib.hid hap
            have HCV : Hid (stepCells x L = #[.int .i64 x.kind, .string x.name, .string x.to, .slice L.pd x.data.length L.cd, .int .i64 x.a, .int .i64 x.b, .int .i64 x.c, .bool x.yes, .slice L.pp x.plan.length L.cp, .slice L.pr x.dirs.length L.cr, .slice L.pc x.cuts.length L.cc]) := Lib.hid rfl
            clear hra0 hsa hfi hxk hap
            go_wp2_with fail
            rw [← HCV.out]
            refine (hurt25S_any q2 p2 _ _ j (Col wr c 2) x L wr w.heap.size HFC.out HFO.out.d2 (fun k hk => hk.2) (HRK.out.wnd.ok (by omega)) HRK.out.inv hkn (by omega) (HSA.out.far fun k hk => HBR.out.block k (by omega)) HAP.out).mono ?_
            rintro e v8 ⟨u, rfl, hm⟩
            rw [← HON.out] at hm
            obtain ⟨c8, cs, rfl, hst, hfo, hsc⟩ := HFO.out.s2 hm
            rw [← HRN.out] at hfo
            have HST := Lib.hid hst
            have HF8 := Lib.hid hfo
            have HSC := Lib.hid hsc
            have HB8 : Hid (Below W0.heap.size W0 v8) := Lib.hid (HBR.out.trans (HFO.out.below_ hst (by omega)))
            have HOA8 := Lib.hid (HOA.out.step hst (by omega) (by omega))
            have HOB8 := Lib.hid (HOB.out.step hst (by omega) (by omega))
            obtain ⟨sd, hsd⟩ : ∃ sd, sd = outN ys r.toNat j := ⟨_, rfl⟩
            rw [← hsd] at HSC hsc
            have HSD := Lib.hid hsd
            obtain ⟨dv, mv, fv, hcs, r1, r2, r3⟩ := hsc
            obtain ⟨da, dc, rfl, _⟩ := own_shape r1.1
            obtain ⟨ma, mc, rfl, _⟩ := own_shape r2.1
            obtain ⟨vals, _, r3, _⟩ := r3
            obtain ⟨fa, fc, rfl, _⟩ := own_shape r3.1
            obtain ⟨E, hE⟩ : ∃ E, E = sd.e := ⟨_, rfl⟩
            obtain ⟨NN, hNN⟩ : ∃ E, E = sd.n := ⟨_, rfl⟩
            obtain ⟨YY, hYY⟩ : ∃ E, E = sd.yes := ⟨_, rfl⟩
            obtain ⟨dn, hdn⟩ : ∃ E, E = sd.data.length := ⟨_, rfl⟩
            obtain ⟨mn, hmn⟩ : ∃ E, E = sd.names.length := ⟨_, rfl⟩
            obtain ⟨fn, hfn⟩ : ∃ E, E = sd.files.length := ⟨_, rfl⟩
            rw [← hE, ← hNN, ← hYY, ← hdn, ← hmn, ← hfn] at hcs
            subst hcs
            obtain ⟨us, hul, hrow, hea⟩ := HOB8.out.own (outs_length _ _ j)
            have HUL := Lib.hid hul
            have HROW := Lib.hid hrow
            have HEA := Lib.hid hea
            have hbV : Below v8.heap.size v8 (v8.alloc (.cells #[.int .i64 E, .slice da dn dc, .slice ma mn mc, .slice fa fn fc, .int .i64 NN, .bool YY] 41)) := (Below.refl _ _).alloc (Nat.le_refl _) _
            have HBV := Lib.hid hbV
            have HOW := Lib.hid (ownsRow_below hrow.1 hbV)
            have HRD : Hid (Reads (v8.alloc (.cells #[.int .i64 E, .slice da dn dc, .slice ma mn mc, .slice fa fn fc, .int .i64 NN, .bool YY] 41)) (v8.heap.size + 1) 6 (some ⟨v8.heap.size, 0, none⟩) 1 [.int .i64 E, .slice da dn dc, .slice ma mn mc, .slice fa fn fc, .int .i64 NN, .bool YY]) := Lib.hid (reads_blk (blk_last v8 v8.heap.size _ _ rfl) (Nat.lt_succ_self _) rfl)
            have HONE := Lib.hid (cells6_one HSC.out)
            have h63 : j + 1 ≤ maxLen := by unfold maxLen; omega
            have h40 : (j + 1) * 96 ≤ 140737488355328 := by omega
            have H63 := Lib.hid h63
            have H40 := Lib.hid h40
            have hFN := HF8.out.size
            clear hm hst hfo r1 r2 r3 hE hNN hYY hdn hmn hfn hul hrow hea hbV h63 h40 hsd y0 y1 y2 y3 y4 y5 y6 y7 y8 y9 y10
            go_wp2_with (at_builtin; go_loud (refine wpList_append_any _ rfl _ _ 84 rfl 0 41 i5 _ 6 96 Try.underlying84 hi5 hz0 hz1 hz2 rfl (by omega) (.slice ab j cb) j (cells6 us) rfl HOW.out (v8.heap.size + 1) (some ⟨v8.heap.size, 0, none⟩) 1 1 _ rfl HRD.out HONE.out H63.out H40.out (Nat.zero_le _) ?_); intro v9 w9 hown9 hg9 hat9; have HOWN9 := Lib.hid hown9; have HG9 := Lib.hid hg9; have HAT9 := Lib.hid hat9; clear hown9 hg9 hat9)
            obtain ⟨a9, ca9, hv9, _⟩ := own_shape HOWN9.out
            subst hv9
            obtain ⟨c9, hst9, hout9⟩ := app_step (col := 7) (by omega) (outs_length _ _ j) HUL.out HROW.out HEA.out HSC.out HOWN9.out HG9.out (by have := HAT9.out; rwa [alloc_size] at this)
            rw [HSD.out, ← outs_succ] at hout9
            have HF9 := Lib.hid (HF8.out.other hst9 (by omega))
            have HB9 : Hid (Below W0.heap.size W0 w9) := Lib.hid (HB8.out.trans (HF8.out.below_ hst9 (by omega)))
            have HOX := Lib.hid (HOA8.out.step hst9 (by omega) (by omega))
            have HOY := Lib.hid hout9
            clear hst9 hout9
            go_wp2
            go_roundw
            case rel => exact ⟨i, j + 1, _, _, _, _, rfl, rfl, by omega, by omega, rfl, by go_num, (by go_num), ⟨⟨c9, HF9.out, HOX.out, HOY.out⟩⟩, HB9.out⟩
            case measure => simp [intOf]; omega
        · have h3' : nO ≤ i + j := by omega
          obtain ⟨x, hxk⟩ : ∃ x, xs[i]? = some x := ⟨_, List.getElem?_eq_getElem (by rw [HX.out.len]; omega)⟩
          obtain ⟨b8, off8, L, hpa, hbl, hra0, hsa, hfi⟩ := HX.out.get i x hxk
          subst hpa
          have HSA := Lib.hid hsa
          have HFC := Lib.hid hfi
          have HRN := Lib.hid (runN_succ (r := r.toNat) hxk)
          have HON := Lib.hid (outN_at (r := r.toNat) hxk)
          have HRK := Lib.hid (runN_ok (r := r.toNat) HFX.out (by omega) i (by omega))
          have hkn : i ≤ 2199023254000 := by omega
          have HSM := Lib.hid (HRK.out.inv.small hkn)
          have hbl0 : b8 < W0.heap.size := by omega
          obtain ⟨y0, y1, y2, y3, y4, y5, y6, y7, y8, y9, y10⟩ := script_cells2 (rangeAt_far hra0 (HBR.out.block b8 hbl0))
          have hap : 0 < x.plan.length → ∀ ad, L.pp = some ad → ¬(Col wr c 1 ad.block) := fun h0 ad e hf => by
            obtain ⟨ad', e', hb', _⟩ := HSA.out.plan.2 h0
            rw [e] at e'; injection e' with e'; subst e'
            have h0 := HFO.out.low ad.block (by omega)
            rw [hf.1] at h0; omega
          have HAP := Lib.hid hap
          have HCV : Hid (stepCells x L = #[.int .i64 x.kind, .string x.name, .string x.to, .slice L.pd x.data.length L.cd, .int .i64 x.a, .int .i64 x.b, .int .i64 x.c, .bool x.yes, .slice L.pp x.plan.length L.cp, .slice L.pr x.dirs.length L.cr, .slice L.pc x.cuts.length L.cc]) := Lib.hid rfl
          clear hra0 hsa hfi hxk hap
          go_wp2_with fail
          rw [← HCV.out]
          refine (hurt25S_any q1 p1 _ _ i (Col wr c 1) x L wr w.heap.size HFC.out HFO.out.d1 (fun k hk => hk.2) (HRK.out.wnd.ok (by omega)) HRK.out.inv hkn (by omega) (HSA.out.far fun k hk => HBR.out.block k (by omega)) HAP.out).mono ?_
          rintro e v8 ⟨u, rfl, hm⟩
          rw [← HON.out] at hm
          obtain ⟨c8, cs, rfl, hst, hfo, hsc⟩ := HFO.out.s1 hm
          rw [← HRN.out] at hfo
          have HST := Lib.hid hst
          have HF8 := Lib.hid hfo
          have HSC := Lib.hid hsc
          have HB8 : Hid (Below W0.heap.size W0 v8) := Lib.hid (HBR.out.trans (HFO.out.below_ hst (by omega)))
          have HOA8 := Lib.hid (HOA.out.step hst (by omega) (by omega))
          have HOB8 := Lib.hid (HOB.out.step hst (by omega) (by omega))
          obtain ⟨sd, hsd⟩ : ∃ sd, sd = outN xs r.toNat i := ⟨_, rfl⟩
          rw [← hsd] at HSC hsc
          have HSD := Lib.hid hsd
          obtain ⟨dv, mv, fv, hcs, r1, r2, r3⟩ := hsc
          obtain ⟨da, dc, rfl, _⟩ := own_shape r1.1
          obtain ⟨ma, mc, rfl, _⟩ := own_shape r2.1
          obtain ⟨vals, _, r3, _⟩ := r3
          obtain ⟨fa, fc, rfl, _⟩ := own_shape r3.1
          obtain ⟨E, hE⟩ : ∃ E, E = sd.e := ⟨_, rfl⟩
          obtain ⟨NN, hNN⟩ : ∃ E, E = sd.n := ⟨_, rfl⟩
          obtain ⟨YY, hYY⟩ : ∃ E, E = sd.yes := ⟨_, rfl⟩
          obtain ⟨dn, hdn⟩ : ∃ E, E = sd.data.length := ⟨_, rfl⟩
          obtain ⟨mn, hmn⟩ : ∃ E, E = sd.names.length := ⟨_, rfl⟩
          obtain ⟨fn, hfn⟩ : ∃ E, E = sd.files.length := ⟨_, rfl⟩
          rw [← hE, ← hNN, ← hYY, ← hdn, ← hmn, ← hfn] at hcs
          subst hcs
          obtain ⟨us, hul, hrow, hea⟩ := HOA8.out.own (outs_length _ _ i)
          have HUL := Lib.hid hul
          have HROW := Lib.hid hrow
          have HEA := Lib.hid hea
          have hbV : Below v8.heap.size v8 (v8.alloc (.cells #[.int .i64 E, .slice da dn dc, .slice ma mn mc, .slice fa fn fc, .int .i64 NN, .bool YY] 41)) := (Below.refl _ _).alloc (Nat.le_refl _) _
          have HBV := Lib.hid hbV
          have HOW := Lib.hid (ownsRow_below hrow.1 hbV)
          have HRD : Hid (Reads (v8.alloc (.cells #[.int .i64 E, .slice da dn dc, .slice ma mn mc, .slice fa fn fc, .int .i64 NN, .bool YY] 41)) (v8.heap.size + 1) 6 (some ⟨v8.heap.size, 0, none⟩) 1 [.int .i64 E, .slice da dn dc, .slice ma mn mc, .slice fa fn fc, .int .i64 NN, .bool YY]) := Lib.hid (reads_blk (blk_last v8 v8.heap.size _ _ rfl) (Nat.lt_succ_self _) rfl)
          have HONE := Lib.hid (cells6_one HSC.out)
          have h63 : i + 1 ≤ maxLen := by unfold maxLen; omega
          have h40 : (i + 1) * 96 ≤ 140737488355328 := by omega
          have H63 := Lib.hid h63
          have H40 := Lib.hid h40
          have hFN := HF8.out.size
          clear hm hst hfo r1 r2 r3 hE hNN hYY hdn hmn hfn hul hrow hea hbV h63 h40 hsd y0 y1 y2 y3 y4 y5 y6 y7 y8 y9 y10
          go_wp2_with (at_builtin; go_loud (refine wpList_append_any _ rfl _ _ 84 rfl 0 41 i5 _ 6 96 Try.underlying84 hi5 hz0 hz1 hz2 rfl (by omega) (.slice aa i ca) i (cells6 us) rfl HOW.out (v8.heap.size + 1) (some ⟨v8.heap.size, 0, none⟩) 1 1 _ rfl HRD.out HONE.out H63.out H40.out (Nat.zero_le _) ?_); intro v9 w9 hown9 hg9 hat9; have HOWN9 := Lib.hid hown9; have HG9 := Lib.hid hg9; have HAT9 := Lib.hid hat9; clear hown9 hg9 hat9)
          obtain ⟨a9, ca9, hv9, _⟩ := own_shape HOWN9.out
          subst hv9
          obtain ⟨c9, hst9, hout9⟩ := app_step (col := 6) (by omega) (outs_length _ _ i) HUL.out HROW.out HEA.out HSC.out HOWN9.out HG9.out (by have := HAT9.out; rwa [alloc_size] at this)
          rw [HSD.out, ← outs_succ] at hout9
          have HF9 := Lib.hid (HF8.out.other hst9 (by omega))
          have HB9 : Hid (Below W0.heap.size W0 w9) := Lib.hid (HB8.out.trans (HF8.out.below_ hst9 (by omega)))
          have HOX := Lib.hid (HOB8.out.step hst9 (by omega) (by omega))
          have HOY := Lib.hid hout9
          clear hst9 hout9
          go_wp2
          go_roundw
          case rel => exact ⟨i + 1, j, _, _, _, _, rfl, rfl, by omega, by omega, by go_num, rfl, (by go_num), ⟨⟨c9, HF9.out, HOY.out, HOX.out⟩⟩, HB9.out⟩
          case measure => simp [intOf]; omega
      · have h2' : nC ≤ j := by omega
        obtain ⟨x, hxk⟩ : ∃ x, xs[i]? = some x := ⟨_, List.getElem?_eq_getElem (by rw [HX.out.len]; omega)⟩
        obtain ⟨b8, off8, L, hpa, hbl, hra0, hsa, hfi⟩ := HX.out.get i x hxk
        subst hpa
        have HSA := Lib.hid hsa
        have HFC := Lib.hid hfi
        have HRN := Lib.hid (runN_succ (r := r.toNat) hxk)
        have HON := Lib.hid (outN_at (r := r.toNat) hxk)
        have HRK := Lib.hid (runN_ok (r := r.toNat) HFX.out (by omega) i (by omega))
        have hkn : i ≤ 2199023254000 := by omega
        have HSM := Lib.hid (HRK.out.inv.small hkn)
        have hbl0 : b8 < W0.heap.size := by omega
        obtain ⟨y0, y1, y2, y3, y4, y5, y6, y7, y8, y9, y10⟩ := script_cells2 (rangeAt_far hra0 (HBR.out.block b8 hbl0))
        have hap : 0 < x.plan.length → ∀ ad, L.pp = some ad → ¬(Col wr c 1 ad.block) := fun h0 ad e hf => by
          obtain ⟨ad', e', hb', _⟩ := HSA.out.plan.2 h0
          rw [e] at e'; injection e' with e'; subst e'
          have h0 := HFO.out.low ad.block (by omega)
          rw [hf.1] at h0; omega
        have HAP := Lib.hid hap
        have HCV : Hid (stepCells x L = #[.int .i64 x.kind, .string x.name, .string x.to, .slice L.pd x.data.length L.cd, .int .i64 x.a, .int .i64 x.b, .int .i64 x.c, .bool x.yes, .slice L.pp x.plan.length L.cp, .slice L.pr x.dirs.length L.cr, .slice L.pc x.cuts.length L.cc]) := Lib.hid rfl
        clear hra0 hsa hfi hxk hap
        go_wp2_with fail
        rw [← HCV.out]
        refine (hurt25S_any q1 p1 _ _ i (Col wr c 1) x L wr w.heap.size HFC.out HFO.out.d1 (fun k hk => hk.2) (HRK.out.wnd.ok (by omega)) HRK.out.inv hkn (by omega) (HSA.out.far fun k hk => HBR.out.block k (by omega)) HAP.out).mono ?_
        rintro e v8 ⟨u, rfl, hm⟩
        rw [← HON.out] at hm
        obtain ⟨c8, cs, rfl, hst, hfo, hsc⟩ := HFO.out.s1 hm
        rw [← HRN.out] at hfo
        have HST := Lib.hid hst
        have HF8 := Lib.hid hfo
        have HSC := Lib.hid hsc
        have HB8 : Hid (Below W0.heap.size W0 v8) := Lib.hid (HBR.out.trans (HFO.out.below_ hst (by omega)))
        have HOA8 := Lib.hid (HOA.out.step hst (by omega) (by omega))
        have HOB8 := Lib.hid (HOB.out.step hst (by omega) (by omega))
        obtain ⟨sd, hsd⟩ : ∃ sd, sd = outN xs r.toNat i := ⟨_, rfl⟩
        rw [← hsd] at HSC hsc
        have HSD := Lib.hid hsd
        obtain ⟨dv, mv, fv, hcs, r1, r2, r3⟩ := hsc
        obtain ⟨da, dc, rfl, _⟩ := own_shape r1.1
        obtain ⟨ma, mc, rfl, _⟩ := own_shape r2.1
        obtain ⟨vals, _, r3, _⟩ := r3
        obtain ⟨fa, fc, rfl, _⟩ := own_shape r3.1
        obtain ⟨E, hE⟩ : ∃ E, E = sd.e := ⟨_, rfl⟩
        obtain ⟨NN, hNN⟩ : ∃ E, E = sd.n := ⟨_, rfl⟩
        obtain ⟨YY, hYY⟩ : ∃ E, E = sd.yes := ⟨_, rfl⟩
        obtain ⟨dn, hdn⟩ : ∃ E, E = sd.data.length := ⟨_, rfl⟩
        obtain ⟨mn, hmn⟩ : ∃ E, E = sd.names.length := ⟨_, rfl⟩
        obtain ⟨fn, hfn⟩ : ∃ E, E = sd.files.length := ⟨_, rfl⟩
        rw [← hE, ← hNN, ← hYY, ← hdn, ← hmn, ← hfn] at hcs
        subst hcs
        obtain ⟨us, hul, hrow, hea⟩ := HOA8.out.own (outs_length _ _ i)
        have HUL := Lib.hid hul
        have HROW := Lib.hid hrow
        have HEA := Lib.hid hea
        have hbV : Below v8.heap.size v8 (v8.alloc (.cells #[.int .i64 E, .slice da dn dc, .slice ma mn mc, .slice fa fn fc, .int .i64 NN, .bool YY] 41)) := (Below.refl _ _).alloc (Nat.le_refl _) _
        have HBV := Lib.hid hbV
        have HOW := Lib.hid (ownsRow_below hrow.1 hbV)
        have HRD : Hid (Reads (v8.alloc (.cells #[.int .i64 E, .slice da dn dc, .slice ma mn mc, .slice fa fn fc, .int .i64 NN, .bool YY] 41)) (v8.heap.size + 1) 6 (some ⟨v8.heap.size, 0, none⟩) 1 [.int .i64 E, .slice da dn dc, .slice ma mn mc, .slice fa fn fc, .int .i64 NN, .bool YY]) := Lib.hid (reads_blk (blk_last v8 v8.heap.size _ _ rfl) (Nat.lt_succ_self _) rfl)
        have HONE := Lib.hid (cells6_one HSC.out)
        have h63 : i + 1 ≤ maxLen := by unfold maxLen; omega
        have h40 : (i + 1) * 96 ≤ 140737488355328 := by omega
        have H63 := Lib.hid h63
        have H40 := Lib.hid h40
        have hFN := HF8.out.size
        clear hm hst hfo r1 r2 r3 hE hNN hYY hdn hmn hfn hul hrow hea hbV h63 h40 hsd y0 y1 y2 y3 y4 y5 y6 y7 y8 y9 y10
        go_wp2_with (at_builtin; go_loud (refine wpList_append_any _ rfl _ _ 84 rfl 0 41 i5 _ 6 96 Try.underlying84 hi5 hz0 hz1 hz2 rfl (by omega) (.slice aa i ca) i (cells6 us) rfl HOW.out (v8.heap.size + 1) (some ⟨v8.heap.size, 0, none⟩) 1 1 _ rfl HRD.out HONE.out H63.out H40.out (Nat.zero_le _) ?_); intro v9 w9 hown9 hg9 hat9; have HOWN9 := Lib.hid hown9; have HG9 := Lib.hid hg9; have HAT9 := Lib.hid hat9; clear hown9 hg9 hat9)
        obtain ⟨a9, ca9, hv9, _⟩ := own_shape HOWN9.out
        subst hv9
        obtain ⟨c9, hst9, hout9⟩ := app_step (col := 6) (by omega) (outs_length _ _ i) HUL.out HROW.out HEA.out HSC.out HOWN9.out HG9.out (by have := HAT9.out; rwa [alloc_size] at this)
        rw [HSD.out, ← outs_succ] at hout9
        have HF9 := Lib.hid (HF8.out.other hst9 (by omega))
        have HB9 : Hid (Below W0.heap.size W0 w9) := Lib.hid (HB8.out.trans (HF8.out.below_ hst9 (by omega)))
        have HOX := Lib.hid (HOB8.out.step hst9 (by omega) (by omega))
        have HOY := Lib.hid hout9
        clear hst9 hout9
        go_wp2
        go_roundw
        case rel => exact ⟨i + 1, j, _, _, _, _, rfl, rfl, by omega, by omega, by go_num, rfl, (by go_num), ⟨⟨c9, HF9.out, HOY.out, HOX.out⟩⟩, HB9.out⟩
        case measure => simp [intOf]; omega
    · by_cases h2 : j < nC
      · have h1' : nA ≤ i := by omega
        obtain ⟨x, hxk⟩ : ∃ x, ys[j]? = some x := ⟨_, List.getElem?_eq_getElem (by rw [HY.out.len]; omega)⟩
        obtain ⟨b8, off8, L, hpa, hbl, hra0, hsa, hfi⟩ := HY.out.get j x hxk
        subst hpa
        have HSA := Lib.hid hsa
        have HFC := Lib.hid hfi
        have HRN := Lib.hid (runN_succ (r := r.toNat) hxk)
        have HON := Lib.hid (outN_at (r := r.toNat) hxk)
        have HRK := Lib.hid (runN_ok (r := r.toNat) HFY.out (by omega) j (by omega))
        have hkn : j ≤ 2199023254000 := by omega
        have HSM := Lib.hid (HRK.out.inv.small hkn)
        have hbl0 : b8 < W0.heap.size := by omega
        obtain ⟨y0, y1, y2, y3, y4, y5, y6, y7, y8, y9, y10⟩ := script_cells2 (rangeAt_far hra0 (HBR.out.block b8 hbl0))
        have hap : 0 < x.plan.length → ∀ ad, L.pp = some ad → ¬(Col wr c 2 ad.block) := fun h0 ad e hf => by
          obtain ⟨ad', e', hb', _⟩ := HSA.out.plan.2 h0
          rw [e] at e'; injection e' with e'; subst e'
          have h0 := HFO.out.low ad.block (by omega)
          rw [hf.1] at h0; omega
        have HAP := Lib.hid hap
        have HCV : Hid (stepCells x L = #[.int .i64 x.kind, .string x.name, .string x.to, .slice L.pd x.data.length L.cd, .int .i64 x.a, .int .i64 x.b, .int .i64 x.c, .bool x.yes, .slice L.pp x.plan.length L.cp, .slice L.pr x.dirs.length L.cr, .slice L.pc x.cuts.length L.cc]) := Lib.hid rfl
        clear hra0 hsa hfi hxk hap
        go_wp2_with fail
        rw [← HCV.out]
        refine (hurt25S_any q2 p2 _ _ j (Col wr c 2) x L wr w.heap.size HFC.out HFO.out.d2 (fun k hk => hk.2) (HRK.out.wnd.ok (by omega)) HRK.out.inv hkn (by omega) (HSA.out.far fun k hk => HBR.out.block k (by omega)) HAP.out).mono ?_
        rintro e v8 ⟨u, rfl, hm⟩
        rw [← HON.out] at hm
        obtain ⟨c8, cs, rfl, hst, hfo, hsc⟩ := HFO.out.s2 hm
        rw [← HRN.out] at hfo
        have HST := Lib.hid hst
        have HF8 := Lib.hid hfo
        have HSC := Lib.hid hsc
        have HB8 : Hid (Below W0.heap.size W0 v8) := Lib.hid (HBR.out.trans (HFO.out.below_ hst (by omega)))
        have HOA8 := Lib.hid (HOA.out.step hst (by omega) (by omega))
        have HOB8 := Lib.hid (HOB.out.step hst (by omega) (by omega))
        obtain ⟨sd, hsd⟩ : ∃ sd, sd = outN ys r.toNat j := ⟨_, rfl⟩
        rw [← hsd] at HSC hsc
        have HSD := Lib.hid hsd
        obtain ⟨dv, mv, fv, hcs, r1, r2, r3⟩ := hsc
        obtain ⟨da, dc, rfl, _⟩ := own_shape r1.1
        obtain ⟨ma, mc, rfl, _⟩ := own_shape r2.1
        obtain ⟨vals, _, r3, _⟩ := r3
        obtain ⟨fa, fc, rfl, _⟩ := own_shape r3.1
        obtain ⟨E, hE⟩ : ∃ E, E = sd.e := ⟨_, rfl⟩
        obtain ⟨NN, hNN⟩ : ∃ E, E = sd.n := ⟨_, rfl⟩
        obtain ⟨YY, hYY⟩ : ∃ E, E = sd.yes := ⟨_, rfl⟩
        obtain ⟨dn, hdn⟩ : ∃ E, E = sd.data.length := ⟨_, rfl⟩
        obtain ⟨mn, hmn⟩ : ∃ E, E = sd.names.length := ⟨_, rfl⟩
        obtain ⟨fn, hfn⟩ : ∃ E, E = sd.files.length := ⟨_, rfl⟩
        rw [← hE, ← hNN, ← hYY, ← hdn, ← hmn, ← hfn] at hcs
        subst hcs
        obtain ⟨us, hul, hrow, hea⟩ := HOB8.out.own (outs_length _ _ j)
        have HUL := Lib.hid hul
        have HROW := Lib.hid hrow
        have HEA := Lib.hid hea
        have hbV : Below v8.heap.size v8 (v8.alloc (.cells #[.int .i64 E, .slice da dn dc, .slice ma mn mc, .slice fa fn fc, .int .i64 NN, .bool YY] 41)) := (Below.refl _ _).alloc (Nat.le_refl _) _
        have HBV := Lib.hid hbV
        have HOW := Lib.hid (ownsRow_below hrow.1 hbV)
        have HRD : Hid (Reads (v8.alloc (.cells #[.int .i64 E, .slice da dn dc, .slice ma mn mc, .slice fa fn fc, .int .i64 NN, .bool YY] 41)) (v8.heap.size + 1) 6 (some ⟨v8.heap.size, 0, none⟩) 1 [.int .i64 E, .slice da dn dc, .slice ma mn mc, .slice fa fn fc, .int .i64 NN, .bool YY]) := Lib.hid (reads_blk (blk_last v8 v8.heap.size _ _ rfl) (Nat.lt_succ_self _) rfl)
        have HONE := Lib.hid (cells6_one HSC.out)
        have h63 : j + 1 ≤ maxLen := by unfold maxLen; omega
        have h40 : (j + 1) * 96 ≤ 140737488355328 := by omega
        have H63 := Lib.hid h63
        have H40 := Lib.hid h40
        have hFN := HF8.out.size
        clear hm hst hfo r1 r2 r3 hE hNN hYY hdn hmn hfn hul hrow hea hbV h63 h40 hsd y0 y1 y2 y3 y4 y5 y6 y7 y8 y9 y10
        go_wp2_with (at_builtin; go_loud (refine wpList_append_any _ rfl _ _ 84 rfl 0 41 i5 _ 6 96 Try.underlying84 hi5 hz0 hz1 hz2 rfl (by omega) (.slice ab j cb) j (cells6 us) rfl HOW.out (v8.heap.size + 1) (some ⟨v8.heap.size, 0, none⟩) 1 1 _ rfl HRD.out HONE.out H63.out H40.out (Nat.zero_le _) ?_); intro v9 w9 hown9 hg9 hat9; have HOWN9 := Lib.hid hown9; have HG9 := Lib.hid hg9; have HAT9 := Lib.hid hat9; clear hown9 hg9 hat9)
        obtain ⟨a9, ca9, hv9, _⟩ := own_shape HOWN9.out
        subst hv9
        obtain ⟨c9, hst9, hout9⟩ := app_step (col := 7) (by omega) (outs_length _ _ j) HUL.out HROW.out HEA.out HSC.out HOWN9.out HG9.out (by have := HAT9.out; rwa [alloc_size] at this)
        rw [HSD.out, ← outs_succ] at hout9
        have HF9 := Lib.hid (HF8.out.other hst9 (by omega))
        have HB9 : Hid (Below W0.heap.size W0 w9) := Lib.hid (HB8.out.trans (HF8.out.below_ hst9 (by omega)))
        have HOX := Lib.hid (HOA8.out.step hst9 (by omega) (by omega))
        have HOY := Lib.hid hout9
        clear hst9 hout9
        go_wp2
        go_roundw
        case rel => exact ⟨i, j + 1, _, _, _, _, rfl, rfl, by omega, by omega, rfl, by go_num, (by go_num), ⟨⟨c9, HF9.out, HOX.out, HOY.out⟩⟩, HB9.out⟩
        case measure => simp [intOf]; omega
      · obtain rfl : i = nA := by omega
        obtain rfl : j = nC := by omega
        obtain ⟨wq, hwq⟩ : ∃ wq : World, wq = wr := ⟨_, rfl⟩
        rw [← hwq] at HFO HOA HOB HBR ⊢
        have HT : Hid (ApTail wq W0.heap.size q1 p1 q2 p2 q3 p3 q4 p4 xs ys r.toNat (.slice aa i ca) (.slice ab j cb) i j 0 0) := Lib.hid ⟨⟨c, HFO.out, HOA.out, HOB.out⟩⟩
        clear hwq HFO HOA HOB hszr
        go_wp2
        go_loopw [16] (fun s wr => ∃ k : Nat, k ≤ j ∧ s = .int .i64 k ∧ ApTail wr W0.heap.size q1 p1 q2 p2 q3 p3 q4 p4 xs ys r.toNat (.slice aa i ca) (.slice ab j cb) i j 0 k ∧ Below W0.heap.size W0 wr) (fun s _ => j - (intOf s).toNat)
        case atStart => exact ⟨0, Nat.zero_le _, rfl, HT.out, HBR.out⟩
        case round =>
          clear c
          obtain ⟨k, hk, rfl, ⟨c, hfo, hoa, hob⟩, hbr⟩ := hrel
          have HFO := Lib.hid hfo
          have HOA := Lib.hid hoa
          have HOB := Lib.hid hob
          have HBR := Lib.hid hbr
          have hszr := hbr.size
          clear hfo hoa hob hbr
          by_cases h3 : k < j
          · obtain ⟨x, hxk⟩ : ∃ x, ys[k]? = some x := ⟨_, List.getElem?_eq_getElem (by rw [HY.out.len]; omega)⟩
            obtain ⟨b8, off8, L, hpa, hbl, hra0, hsa, hfi⟩ := HY.out.get k x hxk
            subst hpa
            have HSA := Lib.hid hsa
            have HFC := Lib.hid hfi
            have HRN := Lib.hid (runN_succ (r := r.toNat) hxk)
            have HON := Lib.hid (outN_at (r := r.toNat) hxk)
            have HRK := Lib.hid (runN_ok (r := r.toNat) HFY.out (by omega) k (by omega))
            have hkn : k ≤ 2199023254000 := by omega
            have HSM := Lib.hid (HRK.out.inv.small hkn)
            have hbl0 : b8 < W0.heap.size := by omega
            obtain ⟨sd, hsd⟩ : ∃ sd, sd = outN ys r.toNat k := ⟨_, rfl⟩
            have HSD := Lib.hid hsd
            have HNM : Hid (sd.names.length ≤ 2199023254000 ∧ sd.files.length ≤ 2199023254000) := Lib.hid (by rw [hsd, HON.out]; exact hurt25_names _ _ x HSM.out)
            have hap : 0 < x.plan.length → ∀ ad, L.pp = some ad → ¬(Col wr c 4 ad.block) := fun h0 ad e hf => by
              obtain ⟨ad', e', hb', _⟩ := HSA.out.plan.2 h0
              rw [e] at e'; injection e' with e'; subst e'
              have h0 := HFO.out.low ad.block (by omega)
              rw [hf.1] at h0; omega
            have HAP := Lib.hid hap
            have HCV : Hid (stepCells x L = #[.int .i64 x.kind, .string x.name, .string x.to, .slice L.pd x.data.length L.cd, .int .i64 x.a, .int .i64 x.b, .int .i64 x.c, .bool x.yes, .slice L.pp x.plan.length L.cp, .slice L.pr x.dirs.length L.cr, .slice L.pc x.cuts.length L.cc]) := Lib.hid rfl
            obtain ⟨gb, ed, em, ef, hga, hgl, hgc, hec, hes⟩ := HOB.out.at_ (outs_length _ _ j) (outs_get ys r.toNat j k (by omega))
            rw [← hsd] at hec hes
            have HES := Lib.hid hes
            obtain ⟨E, hE⟩ : ∃ E, E = sd.e := ⟨_, rfl⟩
            obtain ⟨NN, hNN⟩ : ∃ E, E = sd.n := ⟨_, rfl⟩
            obtain ⟨YY, hYY⟩ : ∃ E, E = sd.yes := ⟨_, rfl⟩
            rw [← hE, ← hNN, ← hYY] at hec HES
            subst hga
            have HSS : Hid (∀ W : World, Below W0.heap.size W0 W → W.cell? ⟨b8, off8 + k * 11, none⟩ = some (.int .i64 x.kind) ∧ W.cell? ⟨b8, off8 + k * 11 + 1, none⟩ = some (.string x.name) ∧ W.cell? ⟨b8, off8 + k * 11 + 2, none⟩ = some (.string x.to) ∧ W.cell? ⟨b8, off8 + k * 11 + 3, none⟩ = some (.slice L.pd x.data.length L.cd) ∧ W.cell? ⟨b8, off8 + k * 11 + 4, none⟩ = some (.int .i64 x.a) ∧ W.cell? ⟨b8, off8 + k * 11 + 5, none⟩ = some (.int .i64 x.b) ∧ W.cell? ⟨b8, off8 + k * 11 + 6, none⟩ = some (.int .i64 x.c) ∧ W.cell? ⟨b8, off8 + k * 11 + 7, none⟩ = some (.bool x.yes) ∧ W.cell? ⟨b8, off8 + k * 11 + 8, none⟩ = some (.slice L.pp x.plan.length L.cp) ∧ W.cell? ⟨b8, off8 + k * 11 + 9, none⟩ = some (.slice L.pr x.dirs.length L.cr) ∧ W.cell? ⟨b8, off8 + k * 11 + 10, none⟩ = some (.slice L.pc x.cuts.length L.cc)) := Lib.hid fun W hW => script_cells2 (rangeAt_far hra0 (hW.block b8 hbl0))
            have HEE : Hid (∀ W : World, W.heap[gb]? = wr.heap[gb]? → W.cell? ⟨gb, k * 6, none⟩ = some (.int .i64 E) ∧ W.cell? ⟨gb, k * 6 + 1, none⟩ = some ed ∧ W.cell? ⟨gb, k * 6 + 2, none⟩ = some em ∧ W.cell? ⟨gb, k * 6 + 3, none⟩ = some ef ∧ W.cell? ⟨gb, k * 6 + 4, none⟩ = some (.int .i64 NN) ∧ W.cell? ⟨gb, k * 6 + 5, none⟩ = some (.bool YY)) := Lib.hid fun W hW => ⟨(World.cell?_of_block hW).trans hec.1, (World.cell?_of_block hW).trans hec.2.1, (World.cell?_of_block hW).trans hec.2.2.1, (World.cell?_of_block hW).trans hec.2.2.2.1, (World.cell?_of_block hW).trans hec.2.2.2.2.1, (World.cell?_of_block hW).trans hec.2.2.2.2.2⟩
            have HGC := Lib.hid hgc
            have HFD := Lib.hid HFO.out.drewn
            have kbr : Below W0.heap.size W0 wr := HBR.out
            have kbd : Below W0.heap.size W0 wr.drew := below_drewN HBR.out 1
            have hk0 : (0 : Int) ≤ (k : Int) := Int.natCast_nonneg _
            have hk1 : (k : Int) < (j : Int) := by omega
            clear hra0 hsa hfi hxk hap hgc hec hes hE hNN hYY hsd
            go_wp2_with fail
            go_region_held3 (fun w' => (w'.cell? ⟨b8, off8 + k * 11, none⟩ = some (.int .i64 x.kind) ∧ w'.cell? ⟨b8, off8 + k * 11 + 1, none⟩ = some (.string x.name) ∧ w'.cell? ⟨b8, off8 + k * 11 + 2, none⟩ = some (.string x.to) ∧ w'.cell? ⟨b8, off8 + k * 11 + 3, none⟩ = some (.slice L.pd x.data.length L.cd) ∧ w'.cell? ⟨b8, off8 + k * 11 + 4, none⟩ = some (.int .i64 x.a) ∧ w'.cell? ⟨b8, off8 + k * 11 + 5, none⟩ = some (.int .i64 x.b) ∧ w'.cell? ⟨b8, off8 + k * 11 + 6, none⟩ = some (.int .i64 x.c) ∧ w'.cell? ⟨b8, off8 + k * 11 + 7, none⟩ = some (.bool x.yes) ∧ w'.cell? ⟨b8, off8 + k * 11 + 8, none⟩ = some (.slice L.pp x.plan.length L.cp) ∧ w'.cell? ⟨b8, off8 + k * 11 + 9, none⟩ = some (.slice L.pr x.dirs.length L.cr) ∧ w'.cell? ⟨b8, off8 + k * 11 + 10, none⟩ = some (.slice L.pc x.cuts.length L.cc)) ∧ w'.cell? ⟨gb, k * 6, none⟩ = some (.int .i64 E) ∧ w'.cell? ⟨gb, k * 6 + 1, none⟩ = some ed ∧ w'.cell? ⟨gb, k * 6 + 2, none⟩ = some em ∧ w'.cell? ⟨gb, k * 6 + 3, none⟩ = some ef ∧ w'.cell? ⟨gb, k * 6 + 4, none⟩ = some (.int .i64 NN) ∧ w'.cell? ⟨gb, k * 6 + 5, none⟩ = some (.bool YY)) (first | exact ⟨HSS.out _ (by assumption), HEE.out _ (by first | assumption | rfl)⟩ | go_keep)
              (first
                | (go_at_call 37; rw [← HCV.out]; refine (hurt25S_any q4 p4 _ _ k (Col wr.drew c 4) x L wr.drew w.heap.size HFC.out HFD.out.d4 (fun k hk => hk.2) (HRK.out.wnd.ok (by omega)) HRK.out.inv hkn (Nat.le_of_lt (Nat.lt_of_lt_of_le hsl kbd.size)) (HSA.out.far fun k hk => kbd.block k (Nat.lt_trans hk hsl)) HAP.out).mono ?_; rintro e v8 ⟨u, rfl, hm⟩; rw [← HON.out, ← HSD.out] at hm; obtain ⟨c8, cs, rfl, hst, hfo, hsc⟩ := HFD.out.s4 hm; rw [← HRN.out] at hfo; have HF8 := Lib.hid hfo; have HSC := Lib.hid hsc; have kb8 : Below W0.heap.size W0 v8 := kbd.trans (HFD.out.below_ hst (by omega)); have ke8 : v8.heap[gb]? = wr.heap[gb]? := hst.touch.block gb hgl (fun hc => absurd (HGC.out.symm.trans hc.1) (by decide)); have HES8 := Lib.hid ((HES.out.step (i := 0) (c' := c) (Step.of_below (below_drewN (Below.refl _ wr) 1) c fun _ _ => rfl) (by omega)).step hst (by omega)); have HOA8 := Lib.hid ((HOA.out.drewn').step hst (by omega) (by omega)); have HOB8 := Lib.hid ((HOB.out.drewn').step hst (by omega) (by omega)); clear hm hst hfo hsc)
                | (go_at_call 20; refine (alike_any _ _ sd 0 0 v8 HSC.out.at_ HES8.out.at_ HNM.out.1 HNM.out.2).mono ?_; rintro e v9 ⟨rfl, hb9⟩; have kb9 : Below W0.heap.size W0 v9 := kb8.trans (hb9.mono kb8.size); have ke9 : v9.heap[gb]? = wr.heap[gb]? := (hb9.block gb (lt_of_block ke8 hgl)).trans ke8; have HF9 := Lib.hid (HF8.out.other (i := 5) (Step.of_below hb9 c8 fun _ _ => rfl) (by omega)); have HOA9 := Lib.hid (HOA8.out.step (i := 0) (Step.of_below hb9 c8 fun _ _ => rfl) (by omega) (by omega)); have HOB9 := Lib.hid (HOB8.out.step (i := 0) (Step.of_below hb9 c8 fun _ _ => rfl) (by omega) (by omega)); clear hb9))
            go_wp2
            go_roundw
            case rel =>
              (repeat apply Exists.intro)
              exact ⟨⟨k + 1, by omega, by go_num, ⟨⟨c8, HF9.out, HOA9.out, HOB9.out⟩⟩, kb9⟩, rfl⟩
            case measure => simp [intOf]; omega
          · obtain rfl : k = j := by omega
            obtain ⟨wp, hwp⟩ : ∃ wp : World, wp = wr := ⟨_, rfl⟩
            rw [← hwp] at HFO HOA HOB HBR ⊢
            have HT2 : Hid (ApTail wp W0.heap.size q1 p1 q2 p2 q3 p3 q4 p4 xs ys r.toNat (.slice aa i ca) (.slice ab k cb) i k 0 k) := Lib.hid ⟨⟨c, HFO.out, HOA.out, HOB.out⟩⟩
            clear hwp HFO HOA HOB hszr
            go_wp2
            go_loopw [17] (fun s wr => ∃ l : Nat, l ≤ i ∧ s = .int .i64 l ∧ ApTail wr W0.heap.size q1 p1 q2 p2 q3 p3 q4 p4 xs ys r.toNat (.slice aa i ca) (.slice ab k cb) i k l k ∧ Below W0.heap.size W0 wr) (fun s _ => i - (intOf s).toNat)
            case atStart => exact ⟨0, Nat.zero_le _, rfl, HT2.out, HBR.out⟩
            case round =>
              clear c
              obtain ⟨l, hl, rfl, ⟨c, hfo, hoa, hob⟩, hbr⟩ := hrel
              have HFO := Lib.hid hfo
              have HOA := Lib.hid hoa
              have HOB := Lib.hid hob
              have HBR := Lib.hid hbr
              have hszr := hbr.size
              clear hfo hoa hob hbr
              by_cases h4 : l < i
              · obtain ⟨x, hxk⟩ : ∃ x, xs[l]? = some x := ⟨_, List.getElem?_eq_getElem (by rw [HX.out.len]; omega)⟩
                obtain ⟨b8, off8, L, hpa, hbl, hra0, hsa, hfi⟩ := HX.out.get l x hxk
                subst hpa
                have HSA := Lib.hid hsa
                have HFC := Lib.hid hfi
                have HRN := Lib.hid (runN_succ (r := r.toNat) hxk)
                have HON := Lib.hid (outN_at (r := r.toNat) hxk)
                have HRK := Lib.hid (runN_ok (r := r.toNat) HFX.out (by omega) l (by omega))
                have hkn : l ≤ 2199023254000 := by omega
                have HSM := Lib.hid (HRK.out.inv.small hkn)
                have hbl0 : b8 < W0.heap.size := by omega
                obtain ⟨sd, hsd⟩ : ∃ sd, sd = outN xs r.toNat l := ⟨_, rfl⟩
                have HSD := Lib.hid hsd
                have HNM : Hid (sd.names.length ≤ 2199023254000 ∧ sd.files.length ≤ 2199023254000) := Lib.hid (by rw [hsd, HON.out]; exact hurt25_names _ _ x HSM.out)
                have hap : 0 < x.plan.length → ∀ ad, L.pp = some ad → ¬(Col wr c 3 ad.block) := fun h0 ad e hf => by
                  obtain ⟨ad', e', hb', _⟩ := HSA.out.plan.2 h0
                  rw [e] at e'; injection e' with e'; subst e'
                  have h0 := HFO.out.low ad.block (by omega)
                  rw [hf.1] at h0; omega
                have HAP := Lib.hid hap
                have HCV : Hid (stepCells x L = #[.int .i64 x.kind, .string x.name, .string x.to, .slice L.pd x.data.length L.cd, .int .i64 x.a, .int .i64 x.b, .int .i64 x.c, .bool x.yes, .slice L.pp x.plan.length L.cp, .slice L.pr x.dirs.length L.cr, .slice L.pc x.cuts.length L.cc]) := Lib.hid rfl
                obtain ⟨gb, ed, em, ef, hga, hgl, hgc, hec, hes⟩ := HOA.out.at_ (outs_length _ _ i) (outs_get xs r.toNat i l (by omega))
                rw [← hsd] at hec hes
                have HES := Lib.hid hes
                obtain ⟨E, hE⟩ : ∃ E, E = sd.e := ⟨_, rfl⟩
                obtain ⟨NN, hNN⟩ : ∃ E, E = sd.n := ⟨_, rfl⟩
                obtain ⟨YY, hYY⟩ : ∃ E, E = sd.yes := ⟨_, rfl⟩
                rw [← hE, ← hNN, ← hYY] at hec HES
                subst hga
                have HSS : Hid (∀ W : World, Below W0.heap.size W0 W → W.cell? ⟨b8, off8 + l * 11, none⟩ = some (.int .i64 x.kind) ∧ W.cell? ⟨b8, off8 + l * 11 + 1, none⟩ = some (.string x.name) ∧ W.cell? ⟨b8, off8 + l * 11 + 2, none⟩ = some (.string x.to) ∧ W.cell? ⟨b8, off8 + l * 11 + 3, none⟩ = some (.slice L.pd x.data.length L.cd) ∧ W.cell? ⟨b8, off8 + l * 11 + 4, none⟩ = some (.int .i64 x.a) ∧ W.cell? ⟨b8, off8 + l * 11 + 5, none⟩ = some (.int .i64 x.b) ∧ W.cell? ⟨b8, off8 + l * 11 + 6, none⟩ = some (.int .i64 x.c) ∧ W.cell? ⟨b8, off8 + l * 11 + 7, none⟩ = some (.bool x.yes) ∧ W.cell? ⟨b8, off8 + l * 11 + 8, none⟩ = some (.slice L.pp x.plan.length L.cp) ∧ W.cell? ⟨b8, off8 + l * 11 + 9, none⟩ = some (.slice L.pr x.dirs.length L.cr) ∧ W.cell? ⟨b8, off8 + l * 11 + 10, none⟩ = some (.slice L.pc x.cuts.length L.cc)) := Lib.hid fun W hW => script_cells2 (rangeAt_far hra0 (hW.block b8 hbl0))
                have HEE : Hid (∀ W : World, W.heap[gb]? = wr.heap[gb]? → W.cell? ⟨gb, l * 6, none⟩ = some (.int .i64 E) ∧ W.cell? ⟨gb, l * 6 + 1, none⟩ = some ed ∧ W.cell? ⟨gb, l * 6 + 2, none⟩ = some em ∧ W.cell? ⟨gb, l * 6 + 3, none⟩ = some ef ∧ W.cell? ⟨gb, l * 6 + 4, none⟩ = some (.int .i64 NN) ∧ W.cell? ⟨gb, l * 6 + 5, none⟩ = some (.bool YY)) := Lib.hid fun W hW => ⟨(World.cell?_of_block hW).trans hec.1, (World.cell?_of_block hW).trans hec.2.1, (World.cell?_of_block hW).trans hec.2.2.1, (World.cell?_of_block hW).trans hec.2.2.2.1, (World.cell?_of_block hW).trans hec.2.2.2.2.1, (World.cell?_of_block hW).trans hec.2.2.2.2.2⟩
                have HGC := Lib.hid hgc
                have HFD := Lib.hid HFO.out.drewn
                have kbr : Below W0.heap.size W0 wr := HBR.out
                have kbd : Below W0.heap.size W0 wr.drew := below_drewN HBR.out 1
                have hk0 : (0 : Int) ≤ (l : Int) := Int.natCast_nonneg _
                have hk1 : (l : Int) < (i : Int) := by omega
                clear hra0 hsa hfi hxk hap hgc hec hes hE hNN hYY hsd
                go_wp2_with fail
                go_region_held3 (fun w' => (w'.cell? ⟨b8, off8 + l * 11, none⟩ = some (.int .i64 x.kind) ∧ w'.cell? ⟨b8, off8 + l * 11 + 1, none⟩ = some (.string x.name) ∧ w'.cell? ⟨b8, off8 + l * 11 + 2, none⟩ = some (.string x.to) ∧ w'.cell? ⟨b8, off8 + l * 11 + 3, none⟩ = some (.slice L.pd x.data.length L.cd) ∧ w'.cell? ⟨b8, off8 + l * 11 + 4, none⟩ = some (.int .i64 x.a) ∧ w'.cell? ⟨b8, off8 + l * 11 + 5, none⟩ = some (.int .i64 x.b) ∧ w'.cell? ⟨b8, off8 + l * 11 + 6, none⟩ = some (.int .i64 x.c) ∧ w'.cell? ⟨b8, off8 + l * 11 + 7, none⟩ = some (.bool x.yes) ∧ w'.cell? ⟨b8, off8 + l * 11 + 8, none⟩ = some (.slice L.pp x.plan.length L.cp) ∧ w'.cell? ⟨b8, off8 + l * 11 + 9, none⟩ = some (.slice L.pr x.dirs.length L.cr) ∧ w'.cell? ⟨b8, off8 + l * 11 + 10, none⟩ = some (.slice L.pc x.cuts.length L.cc)) ∧ w'.cell? ⟨gb, l * 6, none⟩ = some (.int .i64 E) ∧ w'.cell? ⟨gb, l * 6 + 1, none⟩ = some ed ∧ w'.cell? ⟨gb, l * 6 + 2, none⟩ = some em ∧ w'.cell? ⟨gb, l * 6 + 3, none⟩ = some ef ∧ w'.cell? ⟨gb, l * 6 + 4, none⟩ = some (.int .i64 NN) ∧ w'.cell? ⟨gb, l * 6 + 5, none⟩ = some (.bool YY)) (first | exact ⟨HSS.out _ (by assumption), HEE.out _ (by first | assumption | rfl)⟩ | go_keep)
                  (first
                    | (go_at_call 37; rw [← HCV.out]; refine (hurt25S_any q3 p3 _ _ l (Col wr.drew c 3) x L wr.drew w.heap.size HFC.out HFD.out.d3 (fun k hk => hk.2) (HRK.out.wnd.ok (by omega)) HRK.out.inv hkn (Nat.le_of_lt (Nat.lt_of_lt_of_le hsl kbd.size)) (HSA.out.far fun k hk => kbd.block k (Nat.lt_trans hk hsl)) HAP.out).mono ?_; rintro e v8 ⟨u, rfl, hm⟩; rw [← HON.out, ← HSD.out] at hm; obtain ⟨c8, cs, rfl, hst, hfo, hsc⟩ := HFD.out.s3 hm; rw [← HRN.out] at hfo; have HF8 := Lib.hid hfo; have HSC := Lib.hid hsc; have kb8 : Below W0.heap.size W0 v8 := kbd.trans (HFD.out.below_ hst (by omega)); have ke8 : v8.heap[gb]? = wr.heap[gb]? := hst.touch.block gb hgl (fun hc => absurd (HGC.out.symm.trans hc.1) (by decide)); have HES8 := Lib.hid ((HES.out.step (i := 0) (c' := c) (Step.of_below (below_drewN (Below.refl _ wr) 1) c fun _ _ => rfl) (by omega)).step hst (by omega)); have HOA8 := Lib.hid ((HOA.out.drewn').step hst (by omega) (by omega)); have HOB8 := Lib.hid ((HOB.out.drewn').step hst (by omega) (by omega)); clear hm hst hfo hsc)
                    | (go_at_call 20; refine (alike_any _ _ sd 0 0 v8 HSC.out.at_ HES8.out.at_ HNM.out.1 HNM.out.2).mono ?_; rintro e v9 ⟨rfl, hb9⟩; have kb9 : Below W0.heap.size W0 v9 := kb8.trans (hb9.mono kb8.size); have ke9 : v9.heap[gb]? = wr.heap[gb]? := (hb9.block gb (lt_of_block ke8 hgl)).trans ke8; have HF9 := Lib.hid (HF8.out.other (i := 5) (Step.of_below hb9 c8 fun _ _ => rfl) (by omega)); have HOA9 := Lib.hid (HOA8.out.step (i := 0) (Step.of_below hb9 c8 fun _ _ => rfl) (by omega) (by omega)); have HOB9 := Lib.hid (HOB8.out.step (i := 0) (Step.of_below hb9 c8 fun _ _ => rfl) (by omega) (by omega)); clear hb9))
                go_wp2
                go_roundw
                case rel =>
                  (repeat apply Exists.intro)
                  exact ⟨⟨l + 1, by omega, by go_num, ⟨⟨c8, HF9.out, HOA9.out, HOB9.out⟩⟩, kb9⟩, rfl⟩
                case measure => simp [intOf]; omega
              · obtain rfl : l = i := by omega
                go_wp2
                go_ret
                exact ⟨rfl, HB0.out.trans (HBR.out.mono HB0.out.size)⟩
end Go.Proofs.Ytdmcjomcbhdcbaa
