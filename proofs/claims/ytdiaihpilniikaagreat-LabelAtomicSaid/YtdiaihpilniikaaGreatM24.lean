/- One element more behind a row of the program's own, told closely: what was there stays; rows by colors. No program walked.; Lists that were answered, written over and grown: what stands where. No program walked.; label.Read over a wound; two wounds side by side in memory. -/
import Derived.Test.YtdiaihpilniikaaGreatM2
import Derived.ArgAppend
import Derived.Test.YtdiaihpilniikaaGreatM23
namespace Go.Proofs.YtdiaihpilniikaaGreat
open Go.RowKit Go.Maps

theorem heap_setCell_cells {w : World} {g j : Nat} {e : TypeId} {cur : Array Value} {fz : Nat × Nat} (hg : w.heap[g]? = some (.cells cur e fz)) (u : Value) : (w.setCell ⟨g, j, none⟩ u).heap[g]? = some (.cells (cur.setIfInBounds j u) e fz) := by
  simp [World.setCell, Array.getElem?_modify, hg]
/-- A row whose block has that color. -/
def RowK (w : World) (c : Nat → Nat) (col : Nat) (e : TypeId) (v : Value) (n : Nat) (xs : List Value) : Prop :=
  w.ownsRow 0 e 1 v n xs ∧ ∀ k, v.ownBlock = some k → c k = col
section
variable {w w' : World} {c c' : Nat → Nat} {col n : Nat} {e : TypeId} {v : Value} {xs : List Value}
theorem RowK.nil (w : World) (c : Nat → Nat) (col : Nat) (e : TypeId) : RowK w c col e (.slice none 0 0) 0 [] := ⟨World.ownsRow_nil _ _ _ _, fun k hk => by simp [Value.ownBlock] at hk⟩
theorem RowK.keep (h : RowK w c col e v n xs) (hk : ∀ k, v.ownBlock = some k → w'.heap[k]? = w.heap[k]?) (hc : ∀ k, k < w.heap.size → c' k = c k) : RowK w' c' col e v n xs :=
  ⟨ownsRow_keep h.1 hk, fun k hk => (hc k (h.1.lt k hk).2).trans (h.2 k hk)⟩
theorem RowK.below (h : RowK w c col e v n xs) (hb : Below w.heap.size w w') (hc : ∀ k, k < w.heap.size → c' k = c k) : RowK w' c' col e v n xs :=
  h.keep (fun k hk => hb.block k (h.1.lt k hk).2) hc
theorem RowK.cell {b m : Nat} (h : RowK w c col e (.slice (some ⟨b, 0, none⟩) m n) m xs) {j : Nat} (hj : j < m) : w.cell? ⟨b, j, none⟩ = xs[j]? := h.1.cellAt j (by omega)
/-- A cell of another color's block, or of a place at or behind the row's end, is written: the row stays. -/
theorem RowK.set_far (h : RowK w c col e v n xs) {g j i : Nat} (hg : c g = i) (hj : i = col → n ≤ j) (u : Value) : RowK (w.setCell ⟨g, j, none⟩ u) c col e v n xs := by
  refine ⟨⟨h.1.1, ?_⟩, h.2⟩
  rcases h.1.2 with h0 | ⟨b, cap, cur, rfl, hb, hh, hnc, hcm, hcs, ht⟩
  · exact .inl h0
  · by_cases hgb : g = b
    · subst hgb
      have hcol : i = col := by rw [← hg]; exact h.2 g rfl
      have hnj := hj hcol
      exact .inr ⟨g, cap, _, rfl, hb, heap_setCell_cells hh u, hnc, hcm, by simpa using hcs, by rw [Array.toList_setIfInBounds, List.take_set_of_le (by omega)]; exact ht⟩
    · exact .inr ⟨b, cap, cur, rfl, hb, (Below.heap_setCell w _ u b (fun e' => hgb e'.symm)).trans hh, hnc, hcm, hcs, ht⟩
theorem RowK.set_in {b m : Nat} (h : RowK w c col e (.slice (some ⟨b, 0, none⟩) n m) n xs) (j : Nat) (u : Value) : RowK (w.setCell ⟨b, j, none⟩ u) c col e (.slice (some ⟨b, 0, none⟩) n m) n (xs.set j u) :=
  ⟨(h.1.stored j u).1, h.2⟩
theorem RowK.form (h : RowK w c col e v n xs) (hn : 0 < n) : ∃ b m, v = .slice (some ⟨b, 0, none⟩) n m := by
  obtain ⟨g, cap, e1, _⟩ := h.1.form hn
  exact ⟨g, cap, e1⟩
end
theorem setCells_one (w : World) (b o : Nat) (u : Value) : w.setCells b o [u] = w.setCell ⟨b, o, none⟩ u := rfl
/-- What an append of one element has made: the grown row; every row that is not longer than the old one within its color, and every row of another color. -/
structure Grew (w w' : World) (c c' : Nat → Nat) (i : Nat) (e : TypeId) (v v' : Value) (n : Nat) (xs : List Value) (x : Value) : Prop where
  row : RowK w' c' i e v' (n + 1) (xs ++ [x])
  col : ∀ k, k < w.heap.size → c' k = c k
  touch : Touch (fun k => v.ownBlock = some k) w w'
  blk : ∀ b, v'.ownBlock = some b → v.ownBlock = some b ∨ w.heap.size ≤ b
  keep : ∀ (j m : Nat) (u : Value) (ys : List Value), RowK w c j e u m ys → (j = i → m ≤ n) → RowK w' c' j e u m ys
section
variable {P : Program}
theorem run_append_grew (w : World) (c : Nat → Nat) (col : Nat) (t ty e : TypeId) (i : TypeInfo) (z : Value) (bytes : Nat) (ht : P.underlying t = some (.slice e)) (hi : P.info? e = some i) (hz : i.zero = some z)
    (hsize : i.size = 1) (hby : i.bytes = bytes) (hzs : z.cells.size = 1) (v : Value) (n : Nat) (xs : List Value) (hr : RowK w c col e v n xs)
    (a : Addr) (m : Nat) (x : Value) (hx : w.cell? a = some x) (h1 : x.oneCell' = true) (h63 : n + 1 ≤ maxLen) (hbytes : (n + 1) * bytes ≤ 140737488355328) :
    ∃ v' w' c', (Builtin.append_ #[t, t] ty #[v, .slice (some a) 1 m]).run P w = .ok v' w' ∧ Grew w w' c c' col e v v' n xs x := by
  have hnews : ∀ j u, ([x] : List Value)[j]? = some u → w.cell? (a.add j) = some u := by
    intro j u hu
    match j, hu with
    | 0, hu => rw [← Option.some.inj hu]; exact hx
  have hone : ∀ u ∈ ([x] : List Value), u.oneCell' = true := fun u hu => by rw [List.mem_singleton.1 hu]; exact h1
  -- a new row
  have new : ∀ (v' : Value) (w' : World), w'.ownsRow w.heap.size e 1 v' (n + 1) (xs ++ [x]) → w.grownBy w' none → Grew w w' c (fun k => if k < w.heap.size then c k else col) col e v v' n xs x := fun v' w' ho hg =>
    have hb : Below w.heap.size w w' := ⟨hg.os, hg.tape, hg.output, hg.size, fun k hk => hg.block k hk (by simp)⟩
    have hc : ∀ k, k < w.heap.size → (if k < w.heap.size then c k else col) = c k := fun k hk => if_pos hk
    ⟨⟨ownsRow_keep ⟨ho.1, ho.2.imp id fun ⟨g, cap, cur, h⟩ => ⟨g, cap, cur, h.1, Nat.zero_le _, h.2.2⟩⟩ fun _ _ => rfl, fun k hk => if_neg (by have := (ho.lt k hk).1; omega)⟩, hc, Touch.of_below hb, fun b hb' => .inr (ho.lt b hb').1, fun j m u ys hu _ => hu.below hb hc⟩
  rcases hr.1.2 with ⟨rfl, rfl⟩ | ⟨g, cap, cur, rfl, _, hh, hnc, hcm, hcs, htake⟩
  · obtain ⟨v', w', hrun, ho, hg, _, _⟩ := run_append_own_at (P := P) w w.heap.size t ty e i z 1 bytes ht hi hz hsize hby hzs (by decide) (.slice none 0 0) 0 [] (World.ownsRow_nil _ _ _ _) a 1 m [x] rfl hnews hone h63 hbytes (Nat.le_refl _)
    have hxs : xs = [] := List.eq_nil_of_length_eq_zero (by simpa using hr.1.1)
    subst hxs
    exact ⟨v', w', _, hrun, new v' w' ho hg⟩
  · by_cases hroom : n + 1 ≤ cap
    · have hlen : xs.length = n := by have := hr.1.1; omega
      have hlt : n < cur.size := by omega
      have hrun := run_append_room_cells (P := P) w t ty e i ht hi g 0 n cap a 1 m [x] (by rw [hsize]; rfl) hnews hone hroom
        (fun j hj => by
          have hj0 : j = 0 := by simp at hj; exact hj
          subst hj0
          rw [hsize, show 0 + n * 1 + 0 = n by omega, cell_of_row w g n cur e (0, 0) hh, Array.getElem?_eq_getElem hlt]; rfl)
        (fun j hj => by simp [World.frozen?, hh])
      rw [hsize, show 0 + n * 1 = n by omega, setCells_one] at hrun
      refine ⟨_, _, c, hrun, ⟨⟨⟨by rw [List.length_append, hlen]; simp, .inr ⟨g, cap, cur.setIfInBounds n x, rfl, Nat.zero_le _, heap_setCell_cells hh x, hroom, hcm, by simpa using hcs, ?_⟩⟩, fun k hk => hr.2 k hk⟩, fun _ _ => rfl, Touch.setCell _ _ _ rfl, fun b hb' => .inl hb', fun j m' u ys hu hj => ?_⟩⟩
      · rw [Array.toList_setIfInBounds, Nat.mul_one, List.take_add_one, List.take_set_of_le (Nat.le_refl _), List.getElem?_set_self (by simpa using hlt)]
        rw [Nat.mul_one] at htake
        rw [htake]; rfl
      · exact hu.set_far (i := col) (hr.2 g rfl) (fun e' => hj e'.symm) x
    · obtain ⟨v', w', hrun, ho, hg⟩ := run_append_arg_grows (P := P) w t ty e i z 1 bytes ht hi hz hsize hby hzs (by decide) ⟨g, 0, none⟩ n cap xs hr.1.1 (hr.1.cells rfl) a 1 m [x] rfl hnews (by omega) h63 hbytes
      exact ⟨v', w', _, hrun, new v' w' ho hg⟩

theorem wpList_append_grew (w : World) {ops : Array Oper} {rest : List Oper} {o : Oper} {a : Act} {Q : Exit → Act → World → Prop} (hgd : o.guard = none) (s x : Operand) (t : TypeId)
    (ho : o.op = .call { callee := .builtin .append, args := #[s, x], argTypes := #[t, t] })
    (c : Nat → Nat) (col : Nat) (e : TypeId) (i : TypeInfo) (z : Value) (bytes : Nat) (ht : P.underlying t = some (.slice e)) (hi : P.info? e = some i) (hz : i.zero = some z)
    (hsize : i.size = 1) (hby : i.bytes = bytes) (hzs : z.cells.size = 1) (v : Value) (n : Nat) (xs : List Value) (hs : a.eval s = v) (hr : RowK w c col e v n xs)
    (ad : Addr) (m : Nat) (u : Value) (hx : a.eval x = .slice (some ad) 1 m) (hu : w.cell? ad = some u) (h1 : u.oneCell' = true) (h63 : n + 1 ≤ maxLen) (hbytes : (n + 1) * bytes ≤ 140737488355328)
    (h : ∀ v' w' c', Grew w w' c c' col e v v' n xs u → wpList P ops Q rest (a.put o.dst v') w') : wpList P ops Q (o :: rest) a w := by
  obtain ⟨v', w', c', hrun, hg⟩ := run_append_grew (P := P) w c col t o.type e i z bytes ht hi hz hsize hby hzs v n xs hr ad m u hu h1 h63 hbytes
  refine wpList_plain hgd fun _ hK => ?_
  unfold Oper.wp execOp
  simp only [ho, resolve, invoke, builtin, Sem.run_bind, Sem.run_pure, Result.andThen_ok, List.map_toArray, List.map_cons, List.map_nil, hs, hx, hrun]
  exact hK _ _ (h v' w' c' hg)
end
end Go.Proofs.YtdiaihpilniikaaGreat
namespace Go.Proofs.YtdiaihpilniikaaGreat
open Go.RowKit Go.Maps

/-- A slice's header: address, length, capacity. -/
abbrev Rw := Option Addr × Nat × Nat
def slV (r : Rw) : Value := .slice r.1 r.2.1 r.2.2
/-- L marks x, then marks y: the first n. -/
def seqL (L : Nat) (x y : Value) (n : Nat) : List Value := (List.replicate L x ++ List.replicate 70 y).take n
theorem seqL_self (L : Nat) (x y : Value) : seqL L x y L = List.replicate L x := by
  unfold seqL
  rw [List.take_append_of_le_length (by rw [List.length_replicate]; omega), List.take_of_length_le (by rw [List.length_replicate]; omega)]
theorem seqL_get {L n j : Nat} (x y : Value) (hj : j < n) (hn : n ≤ L + 70) : (seqL L x y n)[j]? = some (if j < L then x else y) := by
  unfold seqL
  rw [List.getElem?_take_of_lt hj]
  by_cases h : j < L
  · rw [if_pos h, List.getElem?_append_left (by rw [List.length_replicate]; exact h), List.getElem?_replicate_of_lt h]
  · rw [if_neg h, List.getElem?_append_right (by rw [List.length_replicate]; omega), List.length_replicate, List.getElem?_replicate_of_lt (by omega)]
theorem seqL_length {L n : Nat} (x y : Value) (hn : n ≤ L + 70) : (seqL L x y n).length = n := by
  unfold seqL
  rw [List.length_take, List.length_append, List.length_replicate, List.length_replicate]; omega
theorem seqL_succ {L k : Nat} (x y : Value) (hk : k < 70) : seqL L x y (L + k) ++ [y] = seqL L x y (L + k + 1) := by
  apply List.ext_getElem?
  intro j
  have hl := seqL_length (L := L) (n := L + k) x y (by omega)
  rcases Nat.lt_trichotomy j (L + k) with h | h | h
  · rw [List.getElem?_append_left (by omega), seqL_get x y h (by omega), seqL_get x y (by omega) (by omega)]
  · subst h
    rw [List.getElem?_append_right (by omega), hl, seqL_get x y (by omega) (by omega), if_neg (by omega), Nat.sub_self]; rfl
  · rw [List.getElem?_eq_none (by rw [List.length_append, hl]; simp; omega), List.getElem?_eq_none (by rw [seqL_length x y (by omega)]; omega)]

theorem Touch.put {G : Nat → Prop} {a b : World} (h : Touch G a b) {p : Addr} (hp : G p.block) (u : Value) : Touch G a (b.setCell p u) :=
  h.trans (Touch.setCell b p u (.inl hp))
theorem Touch.then {F G : Nat → Prop} {a b c : World} (h : Touch F a b) (k : Touch G b c) (hG : ∀ i, i < a.heap.size → G i → F i) : Touch F a c :=
  h.trans (k.mono fun i hi hg => by
    by_cases ha : i < a.heap.size
    · exact .inl (hG i ha hg)
    · exact .inr ⟨by omega, hi⟩)
theorem RowK.typed {w : World} {c : Nat → Nat} {col : Nat} {e : TypeId} {v : Value} {n : Nat} {xs : List Value} (h : RowK w c col e v n xs) {b : Nat} (hb : v.ownBlock = some b) : ∃ cur, w.heap[b]? = some (Obj.cells cur e (0, 0)) := by
  rcases h.1.2 with ⟨rfl, _⟩ | ⟨g, cap, cur, rfl, _, hh, _⟩
  · simp [Value.ownBlock] at hb
  · have : g = b := by simpa [Value.ownBlock] using hb
    subst this
    exact ⟨cur, hh⟩

theorem RowK.lt_of {w : World} {b : Nat} {o : Obj} (h : w.heap[b]? = some o) : b < w.heap.size := by
  rcases Nat.lt_or_ge b w.heap.size with h1 | h1
  · exact h1
  · rw [Array.getElem?_eq_none h1] at h; cases h
section
variable (rows : List Rw) (e : TypeId) (x y : Nat → Value)
/-- The blocks of the lists that came in. -/
def InF (b : Nat) : Prop := ∃ (j : Nat) (r : Rw), rows[j]? = some r ∧ (slV r).ownBlock = some b
/-- The first i lists are written full, of list i the first k. -/
def Ph1 (w wr : World) (col : Nat → Nat) (i k : Nat) : Prop :=
  (∀ (j : Nat) (r : Rw), rows[j]? = some r → ∃ xs, RowK wr col j e (slV r) r.2.1 xs ∧ ∀ q, q < r.2.1 → (j < i ∨ j = i ∧ q < k) → xs[q]? = some (x j)) ∧ Touch (InF rows) w wr
/-- A grown list that is kept: whose, the value, its length. -/
structure Pc where
  trk : Nat
  val : Value
  len : Nat
def PcOk (w : World) (col : Nat → Nat) (m : Pc) : Prop :=
  ∃ r : Rw, rows[m.trk]? = some r ∧ RowK w col m.trk e m.val m.len (seqL r.2.1 (x m.trk) (y m.trk) m.len) ∧ m.len ≤ r.2.1 + 70 ∧ ∃ a c, m.val = .slice a m.len c
/-- All lists are written full; the kept ones are right. -/
def Ph2 (w wr : World) (col : Nat → Nat) (ms : List Pc) : Prop :=
  (∀ (j : Nat) (r : Rw), rows[j]? = some r → RowK wr col j e (slV r) r.2.1 (List.replicate r.2.1 (x j))) ∧ (∀ m ∈ ms, PcOk rows e x y wr col m) ∧ Touch (InF rows) w wr
/-- The list i that is being grown. -/
def Trk (w wr : World) (col : Nat → Nat) (i : Nat) (r : Rw) (k : Nat) (g : Value) (ms : List Pc) : Prop :=
  RowK wr col i e g (r.2.1 + k) (seqL r.2.1 (x i) (y i) (r.2.1 + k)) ∧ (∀ m ∈ ms, m.trk = i → m.len ≤ r.2.1 + k) ∧ (∀ m ∈ ms, m.trk ≤ i) ∧ ∀ b, g.ownBlock = some b → InF rows b ∨ w.heap.size ≤ b
end
section
variable {rows : List Rw} {e : TypeId} {x y : Nat → Value} {w wr w' : World} {col col' : Nat → Nat} {i k : Nat} {ms : List Pc}
theorem Ph1.start (h : ∀ (j : Nat) (r : Rw), rows[j]? = some r → ∃ xs, RowK w col j e (slV r) r.2.1 xs) : Ph1 rows e x w w col 0 0 :=
  ⟨fun j r hr => by obtain ⟨xs, hx⟩ := h j r hr; exact ⟨xs, hx, fun q _ hq => by omega⟩, Touch.refl _ _⟩
theorem Ph1.next {r : Rw} (h : Ph1 rows e x w wr col i k) (hr : rows[i]? = some r) (hk : k = r.2.1) : Ph1 rows e x w wr col (i + 1) 0 :=
  ⟨fun j s hs => by
    obtain ⟨xs, hx, hq⟩ := h.1 j s hs
    refine ⟨xs, hx, fun q hq1 hq2 => hq q hq1 ?_⟩
    rcases Nat.lt_or_ge j i with h1 | h1
    · exact .inl h1
    · have hj : j = i := by omega
      subst hj
      rw [hr] at hs
      have := Option.some.inj hs
      subst this
      exact .inr ⟨rfl, by omega⟩, h.2⟩
theorem Ph1.store {g L c : Nat} (h : Ph1 rows e x w wr col i k) (hr : rows[i]? = some (some ⟨g, 0, none⟩, L, c)) (hk : k < L) : Ph1 rows e x w (wr.setCell ⟨g, k, none⟩ (x i)) col i (k + 1) := by
  obtain ⟨xi, hxi, hqi⟩ := h.1 i _ hr
  have hcol : col g = i := hxi.2 g rfl
  refine ⟨fun j s hs => ?_, h.2.put (p := ⟨g, k, none⟩) ⟨i, _, hr, rfl⟩ _⟩
  by_cases hj : j = i
  · subst hj
    rw [hr] at hs
    have := Option.some.inj hs
    subst this
    have hlen : xi.length = L := by have := hxi.1.1; simpa using this
    refine ⟨xi.set k (x j), hxi.set_in k _, fun q hq1 hq2 => ?_⟩
    by_cases hqk : q = k
    · subst hqk
      exact List.getElem?_set_self (by omega)
    · rw [List.getElem?_set_ne (Ne.symm hqk)]
      exact hqi q hq1 (.inr ⟨rfl, by omega⟩)
  · obtain ⟨xs, hx, hq⟩ := h.1 j s hs
    exact ⟨xs, hx.set_far hcol (fun e' => absurd e'.symm hj) _, fun q h1 h2 => hq q h1 (by omega)⟩
theorem Ph1.frozen {g L c : Nat} (h : Ph1 rows e x w wr col i k) (hr : rows[i]? = some (some ⟨g, 0, none⟩, L, c)) (j : Nat) : wr.frozen? ⟨g, j, none⟩ = false := by
  obtain ⟨xi, hxi, _⟩ := h.1 i _ hr
  exact hxi.1.frozenAt j
theorem Ph1.cell {g L c : Nat} (h : Ph1 rows e x w wr col i k) (hr : rows[i]? = some (some ⟨g, 0, none⟩, L, c)) {j : Nat} (hj : j < L) : ∃ u, wr.cell? ⟨g, j, none⟩ = some u := by
  obtain ⟨xi, hxi, _⟩ := h.1 i _ hr
  have hlen : xi.length = L := by have := hxi.1.1; simpa using this
  exact ⟨xi[j], (hxi.1.cellAt j (by simpa using hj)).trans (List.getElem?_eq_getElem (by omega))⟩
theorem Ph1.form {r : Rw} (h : Ph1 rows e x w wr col i k) (hr : rows[i]? = some r) (hk : 0 < r.2.1) : ∃ g c, r = (some ⟨g, 0, none⟩, r.2.1, c) := by
  obtain ⟨xi, hxi, _⟩ := h.1 i _ hr
  obtain ⟨g, c, hv⟩ := hxi.form hk
  obtain ⟨a, L, c'⟩ := r
  injection hv with h1 h2 h3
  exact ⟨g, c, by simp only at h1 h3; rw [h1, h3]⟩
theorem Ph2.of_ph1 (h : Ph1 rows e x w wr col i 0) (hi : rows.length ≤ i) : Ph2 rows e x y w wr col [] :=
  ⟨fun j r hr => by
    obtain ⟨xs, hx, hq⟩ := h.1 j r hr
    have hj : j < rows.length := by
      rcases Nat.lt_or_ge j rows.length with h1 | h1
      · exact h1
      · rw [List.getElem?_eq_none h1] at hr; cases hr
    have : xs = List.replicate r.2.1 (x j) := by
      have hlen : xs.length = r.2.1 := by have := hx.1.1; simpa using this
      apply List.ext_getElem?
      intro q
      by_cases hq1 : q < r.2.1
      · rw [hq q hq1 (.inl (by omega)), List.getElem?_replicate_of_lt hq1]
      · rw [List.getElem?_eq_none (by omega), List.getElem?_eq_none (by rw [List.length_replicate]; omega)]
    rw [← this]; exact hx, fun m hm => (nomatch hm), h.2⟩
theorem Ph2.keep (h : Ph2 rows e x y w wr col ms) (hk : ∀ (b : Nat) (cur : Array Value), wr.heap[b]? = some (Obj.cells cur e (0, 0)) → w'.heap[b]? = wr.heap[b]?) (ht : Touch (InF rows) w w') : Ph2 rows e x y w w' col ms :=
  ⟨fun j r hr => (h.1 j r hr).keep (fun b hb => by obtain ⟨cur, hc⟩ := (h.1 j r hr).typed hb; exact hk b cur hc) fun _ _ => rfl,
   fun m hm => by
    obtain ⟨r, hr, hrow, h1, h2⟩ := h.2.1 m hm
    exact ⟨r, hr, hrow.keep (fun b hb => by obtain ⟨cur, hc⟩ := hrow.typed hb; exact hk b cur hc) fun _ _ => rfl, h1, h2⟩, ht⟩
theorem Trk.keep {r : Rw} {g : Value} (h : Trk rows e x y w wr col i r k g ms) (hk : ∀ (b : Nat) (cur : Array Value), wr.heap[b]? = some (Obj.cells cur e (0, 0)) → w'.heap[b]? = wr.heap[b]?) : Trk rows e x y w w' col i r k g ms :=
  ⟨h.1.keep (fun b hb => by obtain ⟨cur, hc⟩ := h.1.typed hb; exact hk b cur hc) fun _ _ => rfl, h.2⟩
theorem Trk.start {r : Rw} (h : Ph2 rows e x y w wr col ms) (hr : rows[i]? = some r) (hm : ∀ m ∈ ms, m.trk < i) : Trk rows e x y w wr col i r 0 (slV r) ms :=
  ⟨by rw [Nat.add_zero, seqL_self]; exact h.1 i r hr, fun m hm' he => by have := hm m hm'; omega, fun m hm' => Nat.le_of_lt (hm m hm'), fun b hb => .inl ⟨i, r, hr, hb⟩⟩
theorem Trk.add {r : Rw} {g : Value} (h : Trk rows e x y w wr col i r k g ms) : Trk rows e x y w wr col i r k g (ms ++ [⟨i, g, r.2.1 + k⟩]) :=
  ⟨h.1, fun m hm he => by
    rcases List.mem_append.1 hm with h1 | h1
    · exact h.2.1 m h1 he
    · rw [List.mem_singleton.1 h1]; exact Nat.le_refl _, fun m hm => by
    rcases List.mem_append.1 hm with h1 | h1
    · exact h.2.2.1 m h1
    · rw [List.mem_singleton.1 h1]; exact Nat.le_refl _, h.2.2.2⟩
theorem Ph2.add {r : Rw} {g : Value} (h : Ph2 rows e x y w wr col ms) (ht : Trk rows e x y w wr col i r k g ms) (hr : rows[i]? = some r) (hk : k ≤ 70) : Ph2 rows e x y w wr col (ms ++ [⟨i, g, r.2.1 + k⟩]) :=
  ⟨h.1, fun m hm => by
    rcases List.mem_append.1 hm with h1 | h1
    · exact h.2.1 m h1
    · rw [List.mem_singleton.1 h1]
      obtain ⟨a, c, hv, _⟩ := own_shape ht.1.1
      exact ⟨r, hr, ht.1, by show r.2.1 + k ≤ r.2.1 + 70; omega, a, c, hv⟩, h.2.2⟩
theorem Ph2.grew {r : Rw} {g g' : Value} (h : Ph2 rows e x y w wr col ms) (ht : Trk rows e x y w wr col i r k g ms) (hr : rows[i]? = some r) (hk : k < 70) (hw : w.heap.size ≤ wr.heap.size)
    (hg : Grew wr w' col col' i e g g' (r.2.1 + k) (seqL r.2.1 (x i) (y i) (r.2.1 + k)) (y i)) : Ph2 rows e x y w w' col' ms ∧ Trk rows e x y w w' col' i r (k + 1) g' ms := by
  refine ⟨⟨fun j s hs => hg.keep j _ _ _ (h.1 j s hs) fun hj => ?_, fun m hm => ?_, h.2.2.then hg.touch fun b hb hgb => ?_⟩, ?_, fun m hm he => ?_, ht.2.2.1, fun b hb => ?_⟩
  · subst hj
    rw [hr] at hs
    rw [← Option.some.inj hs]; omega
  · obtain ⟨s, hs, hrow, h1, h2⟩ := h.2.1 m hm
    exact ⟨s, hs, hg.keep m.trk _ _ _ hrow fun hj => ht.2.1 m hm hj, h1, h2⟩
  · rcases ht.2.2.2 b hgb with h1 | h1
    · exact h1
    · omega
  · have := hg.row
    rw [seqL_succ (x i) (y i) hk] at this
    exact this
  · have := ht.2.1 m hm he; omega
  · rcases hg.blk b hb with h1 | h1
    · exact ht.2.2.2 b h1
    · exact .inr (by omega)
theorem PcOk.read {m : Pc} (h : PcOk rows e x y wr col m) {r : Rw} (hr : rows[m.trk]? = some r) {q : Nat} (hq : q < m.len) : ∃ b c, m.val = .slice (some ⟨b, 0, none⟩) m.len c ∧ wr.cell? ⟨b, q, none⟩ = some (if q < r.2.1 then x m.trk else y m.trk) := by
  obtain ⟨s, hs, hrow, h1, _⟩ := h
  rw [hr] at hs
  have := Option.some.inj hs
  subst this
  obtain ⟨b, c, hv⟩ := hrow.form (by omega)
  rw [hv] at hrow
  exact ⟨b, c, hv, (hrow.cell hq).trans (seqL_get _ _ hq h1)⟩
theorem Ph2.read (h : Ph2 rows e x y w wr col ms) {r : Rw} {j : Nat} (hr : rows[j]? = some r) {q : Nat} (hq : q < r.2.1) : ∃ b, r = (some ⟨b, 0, none⟩, r.2.1, r.2.2) ∧ wr.cell? ⟨b, q, none⟩ = some (x j) := by
  have hrow := h.1 j r hr
  obtain ⟨b, c, hv⟩ := hrow.form (by omega)
  obtain ⟨a, L, c'⟩ := r
  injection hv with h1 h2 h3
  subst h1
  refine ⟨b, rfl, (hrow.cell hq).trans ?_⟩
  exact List.getElem?_replicate_of_lt hq
end
end Go.Proofs.YtdiaihpilniikaaGreat
namespace Go.Proofs.YtdiaihpilniikaaGreat
open Go.RowKit Go.Maps

theorem Touch.putOne {g : Nat} {a b : World} (h : Touch (fun k => k = g) a b) (j : Nat) (u : Value) : Touch (fun k => k = g) a (b.setCell ⟨g, j, none⟩ u) := h.put (p := ⟨g, j, none⟩) rfl u
set_option maxRecDepth 100000 in
set_option maxHeartbeats 8000000 in
theorem lreadw_any (q p : Nat) (X X' : Wnd) (S : Drv) (F : Nat → Prop) (bs : List UInt8) (x : Int) (w : World) (hd : WD w q p X S F) (hF : ∀ k, F k → k < w.heap.size) (hX : X.Ok) (hS : S.Small) (hr : wread X (S.read [108]) = (X', bs, x)) (hbs : bs.length ≤ 2147483648) :
    Calls Tryz.prog 13 #[.iface 33 (.pointer (some ⟨q, 0, none⟩))] w fun e w' => e = .returned (.tuple #[labV (if x = 0 then (Lab.parse bs).1 else Lab.zero), .int .i64 (if x = 0 then (Lab.parse bs).2 else x)]) ∧ WD w' q p X' S F ∧ Touch F w w' := by
  have hm : ∀ W : World, (method 285 33 (.pointer (some ⟨q, 0, none⟩)) "Read").run Tryz.prog W = .ok (11, .pointer (some ⟨q, 0, none⟩)) W := fun _ => by kernel_rfl
  have HF := Lib.hid hF
  have HC : Hid (∀ W : World, Below w.heap.size w W → Calls Tryz.prog 11 #[.pointer (some ⟨q, 0, none⟩), .string ⟨#[108]⟩] W fun e w' => ∃ A c, e = .returned (.tuple #[.slice A bs.length c, .int .i64 x]) ∧ w'.ownsRow W.heap.size 5 1 (.slice A bs.length c) bs.length (bs.map B8) ∧ WD w' q p X' S F ∧ Touch F W w') := Lib.hid fun W hW => by
    refine (wread_any q p X S F nL W (by decide) (WD.below hd hW) hX hS).mono ?_
    rintro e w' ⟨v, he, ho, hwd, ht⟩
    have hr' : wread X (S.read nL.data.toList) = (X', bs, x) := hr
    rw [hr'] at he ho hwd
    obtain ⟨A, c, rfl, _⟩ := own_shape ho
    exact ⟨A, c, he, ho, hwd, ht⟩
  clear hd hS hr hX hF
  by_cases hx : x = 0
  · subst hx
    rw [if_pos rfl, if_pos rfl]
    obtain ⟨a0, a1, a2, a3, a4, a5, a6, a7, n0, n1, n2, n3, n4, h⟩ := agg_hid (Lab.parse bs).1 (parse_st bs)
    have HV := Lib.hid h
    obtain ⟨n5, hn5⟩ : ∃ n, n = (Lab.parse bs).2 := ⟨_, rfl⟩
    have HN5 := Lib.hid hn5
    rw [HV.out, ← hn5]
    clear h hn5
    go_enter Tryz.func13, Tryz.ntmps13
    go_wp2_with (first
      | (go_at_call 11; refine (HC.out _ ((Below.refl _ w).alloc (Nat.le_refl _) _)).mono ?_; rintro e w1 ⟨A, c, rfl, ho, hwd, ht⟩; have HO := Lib.hid ho; have HW := Lib.hid hwd; have HT := Lib.hid ((Touch.alloc w _).trans (ht.mono fun k _ hk => .inl hk)); have K1 := Lib.hid ((Blk.new w 27 #[.int .u8 0, .int .u8 0, .int .u8 0, .int .u8 0, .int .u8 0, .int .u8 0, .int .u8 0, .int .u8 0, .int .i64 0, .int .i64 0, .int .i64 0, .int .i64 0, .int .i64 0]).touch ht (fun hf => by have := HF.out _ hf; omega)); clear ho hwd ht)
      | (go_at_call 32; have HP := Lib.hid (parse_any A bs.length c bs w1 w1.heap.size (Reads.of_own HO.out) (Nat.le_refl _) (by obtain ⟨_, c', hv, hle⟩ := own_shape HO.out; injection hv with e1 e2 e3; omega) (fun h31 => by
          rcases HO.out.2 with ⟨hv, h0⟩ | ⟨g', cap, cur, hv, _⟩
          · rw [h31] at h0; cases h0
          · injection hv with e1 e2 e3; exact ⟨g', e1⟩)); rw [HV.out, ← HN5.out] at HP; refine HP.out.mono ?_; rintro e w2 ⟨rfl, hb2⟩; have HW2 := Lib.hid (WD.below HW.out hb2); have HT2 := Lib.hid (HT.out.trans (Touch.of_below hb2)); have K2 := Lib.hid (K1.out.below hb2 K1.out.lt); clear hb2; have y0 : w2.cell? ⟨w.heap.size, 0, none⟩ = some (.int .u8 0) := K2.out.cell 0; have y1 : w2.cell? ⟨w.heap.size, 1, none⟩ = some (.int .u8 0) := K2.out.cell 1; have y2 : w2.cell? ⟨w.heap.size, 2, none⟩ = some (.int .u8 0) := K2.out.cell 2; have y3 : w2.cell? ⟨w.heap.size, 3, none⟩ = some (.int .u8 0) := K2.out.cell 3; have y4 : w2.cell? ⟨w.heap.size, 4, none⟩ = some (.int .u8 0) := K2.out.cell 4; have y5 : w2.cell? ⟨w.heap.size, 5, none⟩ = some (.int .u8 0) := K2.out.cell 5; have y6 : w2.cell? ⟨w.heap.size, 6, none⟩ = some (.int .u8 0) := K2.out.cell 6; have y7 : w2.cell? ⟨w.heap.size, 7, none⟩ = some (.int .u8 0) := K2.out.cell 7; have y8 : w2.cell? ⟨w.heap.size, 8, none⟩ = some (.int .i64 0) := K2.out.cell 8; have y9 : w2.cell? ⟨w.heap.size, 9, none⟩ = some (.int .i64 0) := K2.out.cell 9; have y10 : w2.cell? ⟨w.heap.size, 10, none⟩ = some (.int .i64 0) := K2.out.cell 10; have y11 : w2.cell? ⟨w.heap.size, 11, none⟩ = some (.int .i64 0) := K2.out.cell 11; have y12 : w2.cell? ⟨w.heap.size, 12, none⟩ = some (.int .i64 0) := K2.out.cell 12; have yf : ∀ j, w2.frozen? ⟨w.heap.size, j, none⟩ = false := K2.out.frozen; have yl := K2.out.lt))
    refine bodyPost_ret (v := .tuple #[.agg #[.int .u8 (a0.toNat : Int), .int .u8 (a1.toNat : Int), .int .u8 (a2.toNat : Int), .int .u8 (a3.toNat : Int), .int .u8 (a4.toNat : Int), .int .u8 (a5.toNat : Int), .int .u8 (a6.toNat : Int), .int .u8 (a7.toNat : Int), .int .i64 n0, .int .i64 n1, .int .i64 n2, .int .i64 n3, .int .i64 n4], .int .i64 n5]) (by simp only [results, Tryz.results13]; go_simp) rfl ?_
    refine ⟨rfl, ?_, ?_⟩
    · with_reducible refine WD.keep (G := (· = w.heap.size)) HW2.out ?_ (fun k hk e => by have := HF.out k hk; omega)
      iterate 13 (with_reducible refine Touch.putOne ?_ _ _)
      with_reducible exact Touch.refl _ _
    · with_reducible refine Touch.then (G := (· = w.heap.size)) HT2.out ?_ (fun k hk e => by omega)
      iterate 13 (with_reducible refine Touch.putOne ?_ _ _)
      with_reducible exact Touch.refl _ _
  · rw [if_neg hx, if_neg hx, zero_lab]
    have hx2 : (x != 0) = true := by simp [hx]
    clear hx
    go_enter Tryz.func13, Tryz.ntmps13
    go_wp2_with (go_at_call 11; refine (HC.out _ ((Below.refl _ w).alloc (Nat.le_refl _) _)).mono ?_; rintro e w1 ⟨A, c, rfl, ho, hwd, ht⟩; have HW := Lib.hid hwd; have HT := Lib.hid ((Touch.alloc w _).trans (ht.mono fun k _ hk => .inl hk)); have K1 := Lib.hid ((Blk.new w 27 #[.int .u8 0, .int .u8 0, .int .u8 0, .int .u8 0, .int .u8 0, .int .u8 0, .int .u8 0, .int .u8 0, .int .i64 0, .int .i64 0, .int .i64 0, .int .i64 0, .int .i64 0]).touch ht (fun hf => by have := HF.out _ hf; omega)); clear ho hwd ht; have y0 : w1.cell? ⟨w.heap.size, 0, none⟩ = some (.int .u8 0) := K1.out.cell 0; have y1 : w1.cell? ⟨w.heap.size, 1, none⟩ = some (.int .u8 0) := K1.out.cell 1; have y2 : w1.cell? ⟨w.heap.size, 2, none⟩ = some (.int .u8 0) := K1.out.cell 2; have y3 : w1.cell? ⟨w.heap.size, 3, none⟩ = some (.int .u8 0) := K1.out.cell 3; have y4 : w1.cell? ⟨w.heap.size, 4, none⟩ = some (.int .u8 0) := K1.out.cell 4; have y5 : w1.cell? ⟨w.heap.size, 5, none⟩ = some (.int .u8 0) := K1.out.cell 5; have y6 : w1.cell? ⟨w.heap.size, 6, none⟩ = some (.int .u8 0) := K1.out.cell 6; have y7 : w1.cell? ⟨w.heap.size, 7, none⟩ = some (.int .u8 0) := K1.out.cell 7; have y8 : w1.cell? ⟨w.heap.size, 8, none⟩ = some (.int .i64 0) := K1.out.cell 8; have y9 : w1.cell? ⟨w.heap.size, 9, none⟩ = some (.int .i64 0) := K1.out.cell 9; have y10 : w1.cell? ⟨w.heap.size, 10, none⟩ = some (.int .i64 0) := K1.out.cell 10; have y11 : w1.cell? ⟨w.heap.size, 11, none⟩ = some (.int .i64 0) := K1.out.cell 11; have y12 : w1.cell? ⟨w.heap.size, 12, none⟩ = some (.int .i64 0) := K1.out.cell 12; have yf : ∀ j, w1.frozen? ⟨w.heap.size, j, none⟩ = false := K1.out.frozen; have yl := K1.out.lt)
    refine bodyPost_ret (v := .tuple #[.agg #[.int .u8 0, .int .u8 0, .int .u8 0, .int .u8 0, .int .u8 0, .int .u8 0, .int .u8 0, .int .u8 0, .int .i64 0, .int .i64 0, .int .i64 0, .int .i64 0, .int .i64 0], .int .i64 x]) (by simp only [results, Tryz.results13]; go_simp) rfl ?_
    refine ⟨rfl, ?_, ?_⟩
    · with_reducible refine WD.keep (G := (· = w.heap.size)) HW.out ?_ (fun k hk e => by have := HF.out k hk; omega)
      iterate 13 (with_reducible refine Touch.putOne ?_ _ _)
      with_reducible exact Touch.refl _ _
    · with_reducible refine Touch.then (G := (· = w.heap.size)) HT.out ?_ (fun k hk e => by omega)
      iterate 13 (with_reducible refine Touch.putOne ?_ _ _)
      with_reducible exact Touch.refl _ _

/-- Two wounds and their drives, apart from each other, above a place of the memory. -/
structure Pair (w : World) (h q1 p1 : Nat) (X1 : Wnd) (S1 : Drv) (q2 p2 : Nat) (X2 : Wnd) (S2 : Drv) : Prop where
  mk :: (ex : ∃ F1 F2, WD w q1 p1 X1 S1 F1 ∧ WD w q2 p2 X2 S2 F2 ∧ (∀ k, F1 k → h ≤ k ∧ k < w.heap.size) ∧ (∀ k, F2 k → h ≤ k ∧ k < w.heap.size) ∧ ∀ k, F1 k → ¬F2 k)
section
variable {w w' : World} {h q1 p1 q2 p2 : Nat} {X1 X2 Y : Wnd} {S1 S2 T : Drv}
theorem Pair.swap (hp : Pair w h q1 p1 X1 S1 q2 p2 X2 S2) : Pair w h q2 p2 X2 S2 q1 p1 X1 S1 := by
  obtain ⟨F1, F2, a, b, c, d, e⟩ := hp.ex
  exact ⟨F2, F1, b, a, d, c, fun k h2 h1 => e k h1 h2⟩
theorem Pair.below (hp : Pair w h q1 p1 X1 S1 q2 p2 X2 S2) (hb : Below w.heap.size w w') : Pair w' h q1 p1 X1 S1 q2 p2 X2 S2 := by
  obtain ⟨F1, F2, a, b, c, d, e⟩ := hp.ex
  exact ⟨F1, F2, WD.below a hb, WD.below b hb, fun k hk => ⟨(c k hk).1, Nat.lt_of_lt_of_le (c k hk).2 hb.size⟩, fun k hk => ⟨(d k hk).1, Nat.lt_of_lt_of_le (d k hk).2 hb.size⟩, e⟩
/-- A step of the first one. -/
theorem Pair.step {F : Nat → Prop} {F2 : Nat → Prop} (hh : h ≤ w.heap.size) (a : WD w' q1 p1 Y T (grow F w w')) (ht : Touch F w w') (b : WD w q2 p2 X2 S2 F2) (c : ∀ k, F k → h ≤ k ∧ k < w.heap.size) (d : ∀ k, F2 k → h ≤ k ∧ k < w.heap.size) (e : ∀ k, F k → ¬F2 k) : Pair w' h q1 p1 Y T q2 p2 X2 S2 ∧ Below h w w' := by
  have hs := ht.size
  refine ⟨⟨grow F w w', F2, a, WD.keep b ht (fun k h2 h1 => e k h1 h2), fun k hk => ?_, fun k hk => ⟨(d k hk).1, by have := (d k hk).2; omega⟩, fun k hk h2 => ?_⟩, ht.below hh fun k hk => (c k hk).1⟩
  · rcases hk with hk | hk
    · have := c k hk; exact ⟨this.1, by omega⟩
    · exact ⟨by omega, hk.2⟩
  · rcases hk with hk | hk
    · exact e k hk h2
    · have := (d k h2).2; omega
theorem Pair.first {P : Program} {fn : Nat} {args : Array Value} {E : Ending → World → Prop} (hp : Pair w h q1 p1 X1 S1 q2 p2 X2 S2) (hh : h ≤ w.heap.size)
    (hc : ∀ F : Nat → Prop, WD w q1 p1 X1 S1 F → (∀ k, F k → h ≤ k ∧ k < w.heap.size) → Calls P fn args w fun e w' => E e w' ∧ WD w' q1 p1 Y T (grow F w w') ∧ Touch F w w') :
    Calls P fn args w fun e w' => E e w' ∧ Pair w' h q1 p1 Y T q2 p2 X2 S2 ∧ Below h w w' := by
  obtain ⟨F1, F2, a, b, c, d, e⟩ := hp.ex
  refine (hc F1 a c).mono ?_
  rintro en w' ⟨he, hw, ht⟩
  exact ⟨he, Pair.step hh hw ht b c d e⟩
theorem Pair.second {P : Program} {fn : Nat} {args : Array Value} {E : Ending → World → Prop} (hp : Pair w h q1 p1 X1 S1 q2 p2 X2 S2) (hh : h ≤ w.heap.size)
    (hc : ∀ F : Nat → Prop, WD w q2 p2 X2 S2 F → (∀ k, F k → h ≤ k ∧ k < w.heap.size) → Calls P fn args w fun e w' => E e w' ∧ WD w' q2 p2 Y T (grow F w w') ∧ Touch F w w') :
    Calls P fn args w fun e w' => E e w' ∧ Pair w' h q1 p1 X1 S1 q2 p2 Y T ∧ Below h w w' := by
  refine (hp.swap.first hh hc).mono ?_
  rintro e w' ⟨he, hpp, hb⟩
  exact ⟨he, hpp.swap, hb⟩
theorem Pair.drs (hp : Pair w h q1 p1 X1 S1 q2 p2 X2 S2) : (∃ F, Dr w p1 S1 F) ∧ ∃ F, Dr w p2 S2 F := by
  obtain ⟨F1, F2, a, b, _⟩ := hp.ex
  exact ⟨⟨F1, a.dr⟩, ⟨F2, b.dr⟩⟩
theorem Pair.wns (hp : Pair w h q1 p1 X1 S1 q2 p2 X2 S2) : (∃ F, Wn w q1 (.pointer (some ⟨p1, 0, none⟩)) X1 F) ∧ ∃ F, Wn w q2 (.pointer (some ⟨p2, 0, none⟩)) X2 F := by
  obtain ⟨F1, F2, a, b, _⟩ := hp.ex
  exact ⟨⟨F1, a.wn⟩, ⟨F2, b.wn⟩⟩
/-- Two wounds that were made one behind the other. -/
theorem Pair.of (hh : h ≤ w.heap.size) (a : WDb w h q1 p1 X1 S1) {w2 : World} (hb : Below w.heap.size w w2) (b : WDb w2 w.heap.size q2 p2 X2 S2) : Pair w2 h q1 p1 X1 S1 q2 p2 X2 S2 :=
  ⟨_, _, WD.below a hb, b, fun k hk => ⟨hk.1, Nat.lt_of_lt_of_le hk.2 hb.size⟩, fun k hk => ⟨Nat.le_trans hh hk.1, hk.2⟩, fun k h1 h2 => by have := h1.2; have := h2.1; omega⟩
end
end Go.Proofs.YtdiaihpilniikaaGreat
