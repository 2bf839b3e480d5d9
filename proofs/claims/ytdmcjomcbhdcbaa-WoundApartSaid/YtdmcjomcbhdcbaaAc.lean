/- Memory by colors: each block belongs to one owner; what one owner's step leaves of the others; kept answers. No program walked. -/
import Derived.Test.YtdmcjomcbhdcbaaSs
namespace Go.Proofs.Ytdmcjomcbhdcbaa
open Go.RowKit Go.Maps

/-- The blocks of one color. -/
def Col (w : World) (c : Nat → Nat) (i : Nat) : Nat → Prop := fun k => c k = i ∧ k < w.heap.size
/-- From w to w' nothing of w has turned but blocks of color i; the old colors stand. -/
structure Step (w w' : World) (c c' : Nat → Nat) (i : Nat) : Prop where
  touch : Touch (Col w c i) w w'
  same : ∀ k, k < w.heap.size → c' k = c k
section
variable {w w' w2 : World} {c c' c2 : Nat → Nat} {i j : Nat}
theorem Step.trans (h : Step w w' c c' i) (h2 : Step w' w2 c' c2 i) : Step w w2 c c2 i :=
  ⟨h.touch.trans (h2.touch.mono fun k hk hc => by
    by_cases hkw : k < w.heap.size
    · exact .inl ⟨by rw [← h.same k hkw]; exact hc.1, hkw⟩
    · exact .inr ⟨by omega, hk⟩), fun k hk => (h2.same k (Nat.lt_of_lt_of_le hk h.touch.size)).trans (h.same k hk)⟩
theorem Step.of_below (hb : Below w.heap.size w w') (c' : Nat → Nat) (hs : ∀ k, k < w.heap.size → c' k = c k) : Step w w' c c' i := ⟨Touch.of_below hb, hs⟩
theorem Step.below {B : Nat} (h : Step w w' c c' i) (hB : B ≤ w.heap.size) (hc : ∀ k, k < B → c k ≠ i) : Below B w w' :=
  h.touch.below hB fun k hk => by
    rcases Nat.lt_or_ge k B with h1 | h1
    · exact absurd hk.1 (hc k h1)
    · exact h1

/-- A row whose block has that color. -/
def RowC (w : World) (c : Nat → Nat) (col : Nat) (e : TypeId) (size : Nat) (v : Value) (n : Nat) (xs : List Value) : Prop :=
  w.ownsRow 0 e size v n xs ∧ ∀ k, v.ownBlock = some k → c k = col
theorem RowC.step {col : Nat} {e : TypeId} {size n : Nat} {v : Value} {xs : List Value} (h : RowC w c col e size v n xs) (hs : Step w w' c c' i) (hi : col ≠ i) : RowC w' c' col e size v n xs :=
  ⟨ownsRow_keep h.1 fun k hk => hs.touch.block k (h.1.lt k hk).2 fun hc => hi ((h.2 k hk).symm.trans hc.1), fun k hk => (hs.same k (h.1.lt k hk).2).trans (h.2 k hk)⟩
theorem RowC.of {base col : Nat} {e : TypeId} {size n : Nat} {v : Value} {xs : List Value} (h : w.ownsRow base e size v n xs) (hc : ∀ k, base ≤ k → k < w.heap.size → c k = col) : RowC w c col e size v n xs :=
  ⟨ownsRow_base_a h (Nat.zero_le _), fun k hk => hc k (h.lt k hk).1 (h.lt k hk).2⟩
theorem RowC.nil (w : World) (c : Nat → Nat) (col : Nat) (e : TypeId) (size : Nat) : RowC w c col e size (.slice none 0 0) 0 [] := ⟨World.ownsRow_nil _ _ _ _, fun k hk => by simp [Value.ownBlock] at hk⟩

/-- An answer that is kept: its rows have the color 5. -/
def FilesC (w : World) (c : Nat → Nat) (v : Value) (fs : List File) : Prop :=
  ∃ vals, vals.length = fs.length ∧ RowC w c 5 118 2 v fs.length (fileCells fs vals) ∧ ∀ (k : Nat) (f : File) (u : Value), fs[k]? = some f → vals[k]? = some u → RowC w c 5 5 1 u f.2.length (f.2.map B8)
def SaidC (w : World) (c : Nat → Nat) (cs : Array Value) (x : Said) : Prop :=
  ∃ d n f, cs = #[.int .i64 x.e, d, n, f, .int .i64 x.n, .bool x.yes] ∧ RowC w c 5 5 1 d x.data.length (x.data.map B8) ∧ RowC w c 5 9 1 n x.names.length (x.names.map strV) ∧ FilesC w c f x.files
theorem FilesC.step {v : Value} {fs : List File} (h : FilesC w c v fs) (hs : Step w w' c c' i) (hi : 5 ≠ i) : FilesC w' c' v fs := by
  obtain ⟨vals, hl, ho, hd⟩ := h
  exact ⟨vals, hl, ho.step hs hi, fun k f u hf hu => (hd k f u hf hu).step hs hi⟩
theorem SaidC.step {cs : Array Value} {x : Said} (h : SaidC w c cs x) (hs : Step w w' c c' i) (hi : 5 ≠ i) : SaidC w' c' cs x := by
  obtain ⟨d, n, f, e, h1, h2, h3⟩ := h
  exact ⟨d, n, f, e, h1.step hs hi, h2.step hs hi, h3.step hs hi⟩
theorem SaidC.at_ {cs : Array Value} {x : Said} (h : SaidC w c cs x) : SaidAt w 0 (.agg cs) x := by
  obtain ⟨d, n, f, e, h1, h2, vals, hl, h3, h4⟩ := h
  exact ⟨d, n, f, by rw [e], h1.1, h2.1, vals, hl, h3.1, fun k f u hf hu => (h4 k f u hf hu).1⟩
theorem SaidC.of {mid : Nat} {u : Value} {x : Said} (h : SaidAt w mid u x) (hc : ∀ k, mid ≤ k → k < w.heap.size → c k = 5) : ∃ cs, u = .agg cs ∧ SaidC w c cs x := by
  obtain ⟨d, n, f, e, h1, h2, vals, hl, h3, h4⟩ := h
  exact ⟨_, e, d, n, f, rfl, .of h1 hc, .of h2 hc, vals, hl, .of h3 hc, fun k f u hf hu => .of (h4 k f u hf hu) hc⟩

/-- The colors behind a step of owner i: new blocks below 'mid' are its own, those behind are kept answers. -/
def paint (w : World) (c : Nat → Nat) (mid i : Nat) : Nat → Nat := fun k => if k < w.heap.size then c k else if k < mid then i else 5
theorem paint_old {mid k : Nat} (hk : k < w.heap.size) : paint w c mid i k = c k := by unfold paint; rw [if_pos hk]
theorem paint_mid {mid k : Nat} (hk : w.heap.size ≤ k) (hm : k < mid) : paint w c mid i k = i := by unfold paint; rw [if_neg (by omega), if_pos hm]
theorem paint_new {mid k : Nat} (hm : w.heap.size ≤ mid) (hk : mid ≤ k) : paint w c mid i k = 5 := by unfold paint; rw [if_neg (by omega), if_neg (by omega)]

/-- A wound and its drive, of the color i. -/
def WDc (w : World) (c : Nat → Nat) (i q p : Nat) (X : Wnd) (S : Drv) : Prop := WD w q p X S (Col w c i)
theorem WDc.step {q p : Nat} {X : Wnd} {S : Drv} (h : WDc w c j q p X S) (hs : Step w w' c c' i) (hi : j ≠ i) : WDc w' c' j q p X S :=
  (WD.keep h hs.touch fun k hk hc => hi (hk.1.symm.trans hc.1)).mono fun k hk => ⟨(hs.same k hk.2).trans hk.1, Nat.lt_of_lt_of_le hk.2 hs.touch.size⟩
theorem Mid.colors {q p : Nat} {u : Value} {sd : Said} {Y : Wnd} {T : Drv} (h : Mid w w' q p (Col w c i) u sd Y T) :
    ∃ c' cs, u = .agg cs ∧ Step w w' c c' i ∧ WDc w' c' i q p Y T ∧ SaidC w' c' cs sd ∧ ∀ k, w.heap.size ≤ k → c' k = i ∨ c' k = 5 := by
  obtain ⟨mid, h1, h2, h3, h4, h5⟩ := h
  obtain ⟨cs, hu, hs⟩ := SaidC.of (c := paint w c mid i) h3 fun k hk _ => paint_new h1 hk
  refine ⟨paint w c mid i, cs, hu, ⟨h5, fun k hk => paint_old hk⟩, ?_, hs, fun k hk => ?_⟩
  · refine WD.mono h4 fun k hk => ?_
    rcases hk.1 with hc | hc
    · exact ⟨(paint_old hc.2).trans hc.1, Nat.lt_of_lt_of_le hc.2 h5.size⟩
    · exact ⟨paint_mid hc.1 hk.2, hc.2⟩
  · by_cases hm : k < mid
    · exact .inl (paint_mid hk hm)
    · exact .inr (paint_new h1 (by omega))

/-- A list of kept answers, its own row of the color 'col'. -/
def cells6 (us : List (Array Value)) : List Value := us.flatMap Array.toList
def OutsC (w : World) (c : Nat → Nat) (col : Nat) (v : Value) (l : List Said) : Prop :=
  ∃ us, us.length = l.length ∧ RowC w c col 41 6 v l.length (cells6 us) ∧ ∀ (k : Nat) (x : Said) (u : Array Value), l[k]? = some x → us[k]? = some u → SaidC w c u x
theorem OutsC.step {col : Nat} {v : Value} {l : List Said} (h : OutsC w c col v l) (hs : Step w w' c c' i) (hi : 5 ≠ i) (hc : col ≠ i) : OutsC w' c' col v l := by
  obtain ⟨us, hl, ho, hd⟩ := h
  exact ⟨us, hl, ho.step hs hc, fun k x u hx hu => (hd k x u hx hu).step hs hi⟩
theorem OutsC.nil (w : World) (c : Nat → Nat) (col : Nat) : OutsC w c col (.slice none 0 0) [] := ⟨[], rfl, RowC.nil _ _ _ _ _, fun k x u hx => by simp at hx⟩
theorem SaidC.size {cs : Array Value} {x : Said} (h : SaidC w c cs x) : cs.toList.length = 6 := by
  obtain ⟨d, n, f, e, _⟩ := h
  rw [e]; rfl
theorem cells6_get : ∀ (us : List (Array Value)) (k : Nat) (u : Array Value), (∀ x ∈ us, x.toList.length = 6) → us[k]? = some u → ∀ j, j < 6 → (cells6 us)[k * 6 + j]? = u[j]?
  | [], k, u, _, h => by simp at h
  | a :: us, 0, u, hl, h => fun j hj => by
    simp at h; subst h
    have := hl a (by simp)
    unfold cells6
    rw [List.flatMap_cons, List.getElem?_append_left (by omega)]
    simp
  | a :: us, k + 1, u, hl, h => fun j hj => by
    have h6 := hl a (by simp)
    have := cells6_get us k u (fun x hx => hl x (by simp [hx])) (by simpa using h) j hj
    unfold cells6 at this ⊢
    rw [List.flatMap_cons, List.getElem?_append_right (by omega), h6, show (k + 1) * 6 + j - 6 = k * 6 + j by omega]
    exact this
end
end Go.Proofs.Ytdmcjomcbhdcbaa
