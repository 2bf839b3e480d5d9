/- Lists that were answered, written over and grown: what stands where. No program walked. -/
import Derived.Test.YtdmcjomcbhdcbaaAa
namespace Go.Proofs.Ytdmcjomcbhdcbaa
open Go.RowKit Go.Maps

/-- A slice's header: address, length, capacity. -/
abbrev Rw := Option Addr × Nat × Nat
def slV (r : Rw) : Value := .slice r.1 r.2.1 r.2.2
/-- L marks x, then marks y: the first n. -/
def seqL (L : Nat) (x y : Value) (n : Nat) : List Value := (List.replicate L x ++ List.replicate 70 y).take n
theorem seqL_self (L : Nat) (x y : Value) : seqL L x y L = List.replicate L x := by
  unfold seqL
  rw [List.take_append_of_le_length (by rw [List.length_replicate]; omega), List.take_of_length_le (by rw [List.length_replicate]; omega)]
theorem seqL_get {L n j : Nat} (x y : Value) (hj : j < n) (hn : n ≤ L + 70) : (seqL L x y n)[j]? = some (if j < L then x else y) := by
  unfold seqL
  rw [List.getElem?_take_of_lt hj]
  by_cases h : j < L
  · rw [if_pos h, List.getElem?_append_left (by rw [List.length_replicate]; exact h), List.getElem?_replicate_of_lt h]
  · rw [if_neg h, List.getElem?_append_right (by rw [List.length_replicate]; omega), List.length_replicate, List.getElem?_replicate_of_lt (by omega)]
theorem seqL_length {L n : Nat} (x y : Value) (hn : n ≤ L + 70) : (seqL L x y n).length = n := by
  unfold seqL
  rw [List.length_take, List.length_append, List.length_replicate, List.length_replicate]; omega
theorem seqL_succ {L k : Nat} (x y : Value) (hk : k < 70) : seqL L x y (L + k) ++ [y] = seqL L x y (L + k + 1) := by
  apply List.ext_getElem?
  intro j
  have hl := seqL_length (L := L) (n := L + k) x y (by omega)
  rcases Nat.lt_trichotomy j (L + k) with h | h | h
  · rw [List.getElem?_append_left (by omega), seqL_get x y h (by omega), seqL_get x y (by omega) (by omega)]
  · subst h
    rw [List.getElem?_append_right (by omega), hl, seqL_get x y (by omega) (by omega), if_neg (by omega), Nat.sub_self]; rfl
  · rw [List.getElem?_eq_none (by rw [List.length_append, hl]; simp; omega), List.getElem?_eq_none (by rw [seqL_length x y (by omega)]; omega)]

theorem Touch.put {G : Nat → Prop} {a b : World} (h : Touch G a b) {p : Addr} (hp : G p.block) (u : Value) : Touch G a (b.setCell p u) :=
  h.trans (Touch.setCell b p u (.inl hp))
theorem Touch.then {F G : Nat → Prop} {a b c : World} (h : Touch F a b) (k : Touch G b c) (hG : ∀ i, i < a.heap.size → G i → F i) : Touch F a c :=
  h.trans (k.mono fun i hi hg => by
    by_cases ha : i < a.heap.size
    · exact .inl (hG i ha hg)
    · exact .inr ⟨by omega, hi⟩)
theorem RowK.typed {w : World} {c : Nat → Nat} {col : Nat} {e : TypeId} {v : Value} {n : Nat} {xs : List Value} (h : RowK w c col e v n xs) {b : Nat} (hb : v.ownBlock = some b) : ∃ cur, w.heap[b]? = some (Obj.cells cur e (0, 0)) := by
  rcases h.1.2 with ⟨rfl, _⟩ | ⟨g, cap, cur, rfl, _, hh, _⟩
  · simp [Value.ownBlock] at hb
  · have : g = b := by simpa [Value.ownBlock] using hb
    subst this
    exact ⟨cur, hh⟩

theorem RowK.lt_of {w : World} {b : Nat} {o : Obj} (h : w.heap[b]? = some o) : b < w.heap.size := by
  rcases Nat.lt_or_ge b w.heap.size with h1 | h1
  · exact h1
  · rw [Array.getElem?_eq_none h1] at h; cases h
section
variable (rows : List Rw) (e : TypeId) (x y : Nat → Value)
/-- The blocks of the lists that came in. -/
def InF (b : Nat) : Prop := ∃ (j : Nat) (r : Rw), rows[j]? = some r ∧ (slV r).ownBlock = some b
/-- The first i lists are written full, of list i the first k. -/
def Ph1 (w wr : World) (col : Nat → Nat) (i k : Nat) : Prop :=
  (∀ (j : Nat) (r : Rw), rows[j]? = some r → ∃ xs, RowK wr col j e (slV r) r.2.1 xs ∧ ∀ q, q < r.2.1 → (j < i ∨ j = i ∧ q < k) → xs[q]? = some (x j)) ∧ Touch (InF rows) w wr
/-- A grown list that is kept: whose, the value, its length. -/
structure Pc where
  trk : Nat
  val : Value
  len : Nat
def PcOk (w : World) (col : Nat → Nat) (m : Pc) : Prop :=
  ∃ r : Rw, rows[m.trk]? = some r ∧ RowK w col m.trk e m.val m.len (seqL r.2.1 (x m.trk) (y m.trk) m.len) ∧ m.len ≤ r.2.1 + 70 ∧ ∃ a c, m.val = .slice a m.len c
/-- All lists are written full; the kept ones are right. -/
def Ph2 (w wr : World) (col : Nat → Nat) (ms : List Pc) : Prop :=
  (∀ (j : Nat) (r : Rw), rows[j]? = some r → RowK wr col j e (slV r) r.2.1 (List.replicate r.2.1 (x j))) ∧ (∀ m ∈ ms, PcOk rows e x y wr col m) ∧ Touch (InF rows) w wr
/-- The list i that is being grown. -/
def Trk (w wr : World) (col : Nat → Nat) (i : Nat) (r : Rw) (k : Nat) (g : Value) (ms : List Pc) : Prop :=
  RowK wr col i e g (r.2.1 + k) (seqL r.2.1 (x i) (y i) (r.2.1 + k)) ∧ (∀ m ∈ ms, m.trk = i → m.len ≤ r.2.1 + k) ∧ (∀ m ∈ ms, m.trk ≤ i) ∧ ∀ b, g.ownBlock = some b → InF rows b ∨ w.heap.size ≤ b
end
section
variable {rows : List Rw} {e : TypeId} {x y : Nat → Value} {w wr w' : World} {col col' : Nat → Nat} {i k : Nat} {ms : List Pc}
theorem Ph1.start (h : ∀ (j : Nat) (r : Rw), rows[j]? = some r → ∃ xs, RowK w col j e (slV r) r.2.1 xs) : Ph1 rows e x w w col 0 0 :=
  ⟨fun j r hr => by obtain ⟨xs, hx⟩ := h j r hr; exact ⟨xs, hx, fun q _ hq => by omega⟩, Touch.refl _ _⟩
theorem Ph1.next {r : Rw} (h : Ph1 rows e x w wr col i k) (hr : rows[i]? = some r) (hk : k = r.2.1) : Ph1 rows e x w wr col (i + 1) 0 :=
  ⟨fun j s hs => by
    obtain ⟨xs, hx, hq⟩ := h.1 j s hs
    refine ⟨xs, hx, fun q hq1 hq2 => hq q hq1 ?_⟩
    rcases Nat.lt_or_ge j i with h1 | h1
    · exact .inl h1
    · have hj : j = i := by omega
      subst hj
      rw [hr] at hs
      have := Option.some.inj hs
      subst this
      exact .inr ⟨rfl, by omega⟩, h.2⟩
theorem Ph1.store {g L c : Nat} (h : Ph1 rows e x w wr col i k) (hr : rows[i]? = some (some ⟨g, 0, none⟩, L, c)) (hk : k < L) : Ph1 rows e x w (wr.setCell ⟨g, k, none⟩ (x i)) col i (k + 1) := by
  obtain ⟨xi, hxi, hqi⟩ := h.1 i _ hr
  have hcol : col g = i := hxi.2 g rfl
  refine ⟨fun j s hs => ?_, h.2.put (p := ⟨g, k, none⟩) ⟨i, _, hr, rfl⟩ _⟩
  by_cases hj : j = i
  · subst hj
    rw [hr] at hs
    have := Option.some.inj hs
    subst this
    have hlen : xi.length = L := by have := hxi.1.1; simpa using this
    refine ⟨xi.set k (x j), hxi.set_in k _, fun q hq1 hq2 => ?_⟩
    by_cases hqk : q = k
    · subst hqk
      exact List.getElem?_set_self (by omega)
    · rw [List.getElem?_set_ne (Ne.symm hqk)]
      exact hqi q hq1 (.inr ⟨rfl, by omega⟩)
  · obtain ⟨xs, hx, hq⟩ := h.1 j s hs
    exact ⟨xs, hx.set_far hcol (fun e' => absurd e'.symm hj) _, fun q h1 h2 => hq q h1 (by omega)⟩
theorem Ph1.frozen {g L c : Nat} (h : Ph1 rows e x w wr col i k) (hr : rows[i]? = some (some ⟨g, 0, none⟩, L, c)) (j : Nat) : wr.frozen? ⟨g, j, none⟩ = false := by
  obtain ⟨xi, hxi, _⟩ := h.1 i _ hr
  exact hxi.1.frozenAt j
theorem Ph1.cell {g L c : Nat} (h : Ph1 rows e x w wr col i k) (hr : rows[i]? = some (some ⟨g, 0, none⟩, L, c)) {j : Nat} (hj : j < L) : ∃ u, wr.cell? ⟨g, j, none⟩ = some u := by
  obtain ⟨xi, hxi, _⟩ := h.1 i _ hr
  have hlen : xi.length = L := by have := hxi.1.1; simpa using this
  exact ⟨xi[j], (hxi.1.cellAt j (by simpa using hj)).trans (List.getElem?_eq_getElem (by omega))⟩
theorem Ph1.form {r : Rw} (h : Ph1 rows e x w wr col i k) (hr : rows[i]? = some r) (hk : 0 < r.2.1) : ∃ g c, r = (some ⟨g, 0, none⟩, r.2.1, c) := by
  obtain ⟨xi, hxi, _⟩ := h.1 i _ hr
  obtain ⟨g, c, hv⟩ := hxi.form hk
  obtain ⟨a, L, c'⟩ := r
  injection hv with h1 h2 h3
  exact ⟨g, c, by simp only at h1 h3; rw [h1, h3]⟩
theorem Ph2.of_ph1 (h : Ph1 rows e x w wr col i 0) (hi : rows.length ≤ i) : Ph2 rows e x y w wr col [] :=
  ⟨fun j r hr => by
    obtain ⟨xs, hx, hq⟩ := h.1 j r hr
    have hj : j < rows.length := by
      rcases Nat.lt_or_ge j rows.length with h1 | h1
      · exact h1
      · rw [List.getElem?_eq_none h1] at hr; cases hr
    have : xs = List.replicate r.2.1 (x j) := by
      have hlen : xs.length = r.2.1 := by have := hx.1.1; simpa using this
      apply List.ext_getElem?
      intro q
      by_cases hq1 : q < r.2.1
      · rw [hq q hq1 (.inl (by omega)), List.getElem?_replicate_of_lt hq1]
      · rw [List.getElem?_eq_none (by omega), List.getElem?_eq_none (by rw [List.length_replicate]; omega)]
    rw [← this]; exact hx, fun m hm => (nomatch hm), h.2⟩
theorem Ph2.keep (h : Ph2 rows e x y w wr col ms) (hk : ∀ (b : Nat) (cur : Array Value), wr.heap[b]? = some (Obj.cells cur e (0, 0)) → w'.heap[b]? = wr.heap[b]?) (ht : Touch (InF rows) w w') : Ph2 rows e x y w w' col ms :=
  ⟨fun j r hr => (h.1 j r hr).keep (fun b hb => by obtain ⟨cur, hc⟩ := (h.1 j r hr).typed hb; exact hk b cur hc) fun _ _ => rfl,
   fun m hm => by
    obtain ⟨r, hr, hrow, h1, h2⟩ := h.2.1 m hm
    exact ⟨r, hr, hrow.keep (fun b hb => by obtain ⟨cur, hc⟩ := hrow.typed hb; exact hk b cur hc) fun _ _ => rfl, h1, h2⟩, ht⟩
theorem Trk.keep {r : Rw} {g : Value} (h : Trk rows e x y w wr col i r k g ms) (hk : ∀ (b : Nat) (cur : Array Value), wr.heap[b]? = some (Obj.cells cur e (0, 0)) → w'.heap[b]? = wr.heap[b]?) : Trk rows e x y w w' col i r k g ms :=
  ⟨h.1.keep (fun b hb => by obtain ⟨cur, hc⟩ := h.1.typed hb; exact hk b cur hc) fun _ _ => rfl, h.2⟩
theorem Trk.start {r : Rw} (h : Ph2 rows e x y w wr col ms) (hr : rows[i]? = some r) (hm : ∀ m ∈ ms, m.trk < i) : Trk rows e x y w wr col i r 0 (slV r) ms :=
  ⟨by rw [Nat.add_zero, seqL_self]; exact h.1 i r hr, fun m hm' he => by have := hm m hm'; omega, fun m hm' => Nat.le_of_lt (hm m hm'), fun b hb => .inl ⟨i, r, hr, hb⟩⟩
theorem Trk.add {r : Rw} {g : Value} (h : Trk rows e x y w wr col i r k g ms) : Trk rows e x y w wr col i r k g (ms ++ [⟨i, g, r.2.1 + k⟩]) :=
  ⟨h.1, fun m hm he => by
    rcases List.mem_append.1 hm with h1 | h1
    · exact h.2.1 m h1 he
    · rw [List.mem_singleton.1 h1]; exact Nat.le_refl _, fun m hm => by
    rcases List.mem_append.1 hm with h1 | h1
    · exact h.2.2.1 m h1
    · rw [List.mem_singleton.1 h1]; exact Nat.le_refl _, h.2.2.2⟩
theorem Ph2.add {r : Rw} {g : Value} (h : Ph2 rows e x y w wr col ms) (ht : Trk rows e x y w wr col i r k g ms) (hr : rows[i]? = some r) (hk : k ≤ 70) : Ph2 rows e x y w wr col (ms ++ [⟨i, g, r.2.1 + k⟩]) :=
  ⟨h.1, fun m hm => by
    rcases List.mem_append.1 hm with h1 | h1
    · exact h.2.1 m h1
    · rw [List.mem_singleton.1 h1]
      obtain ⟨a, c, hv, _⟩ := own_shape ht.1.1
      exact ⟨r, hr, ht.1, by show r.2.1 + k ≤ r.2.1 + 70; omega, a, c, hv⟩, h.2.2⟩
theorem Ph2.grew {r : Rw} {g g' : Value} (h : Ph2 rows e x y w wr col ms) (ht : Trk rows e x y w wr col i r k g ms) (hr : rows[i]? = some r) (hk : k < 70) (hw : w.heap.size ≤ wr.heap.size)
    (hg : Grew wr w' col col' i e g g' (r.2.1 + k) (seqL r.2.1 (x i) (y i) (r.2.1 + k)) (y i)) : Ph2 rows e x y w w' col' ms ∧ Trk rows e x y w w' col' i r (k + 1) g' ms := by
  refine ⟨⟨fun j s hs => hg.keep j _ _ _ (h.1 j s hs) fun hj => ?_, fun m hm => ?_, h.2.2.then hg.touch fun b hb hgb => ?_⟩, ?_, fun m hm he => ?_, ht.2.2.1, fun b hb => ?_⟩
  · subst hj
    rw [hr] at hs
    rw [← Option.some.inj hs]; omega
  · obtain ⟨s, hs, hrow, h1, h2⟩ := h.2.1 m hm
    exact ⟨s, hs, hg.keep m.trk _ _ _ hrow fun hj => ht.2.1 m hm hj, h1, h2⟩
  · rcases ht.2.2.2 b hgb with h1 | h1
    · exact h1
    · omega
  · have := hg.row
    rw [seqL_succ (x i) (y i) hk] at this
    exact this
  · have := ht.2.1 m hm he; omega
  · rcases hg.blk b hb with h1 | h1
    · exact ht.2.2.2 b h1
    · exact .inr (by omega)
theorem PcOk.read {m : Pc} (h : PcOk rows e x y wr col m) {r : Rw} (hr : rows[m.trk]? = some r) {q : Nat} (hq : q < m.len) : ∃ b c, m.val = .slice (some ⟨b, 0, none⟩) m.len c ∧ wr.cell? ⟨b, q, none⟩ = some (if q < r.2.1 then x m.trk else y m.trk) := by
  obtain ⟨s, hs, hrow, h1, _⟩ := h
  rw [hr] at hs
  have := Option.some.inj hs
  subst this
  obtain ⟨b, c, hv⟩ := hrow.form (by omega)
  rw [hv] at hrow
  exact ⟨b, c, hv, (hrow.cell hq).trans (seqL_get _ _ hq h1)⟩
theorem Ph2.read (h : Ph2 rows e x y w wr col ms) {r : Rw} {j : Nat} (hr : rows[j]? = some r) {q : Nat} (hq : q < r.2.1) : ∃ b, r = (some ⟨b, 0, none⟩, r.2.1, r.2.2) ∧ wr.cell? ⟨b, q, none⟩ = some (x j) := by
  have hrow := h.1 j r hr
  obtain ⟨b, c, hv⟩ := hrow.form (by omega)
  obtain ⟨a, L, c'⟩ := r
  injection hv with h1 h2 h3
  subst h1
  refine ⟨b, rfl, (hrow.cell hq).trans ?_⟩
  exact List.getElem?_replicate_of_lt hq
end
end Go.Proofs.Ytdmcjomcbhdcbaa
