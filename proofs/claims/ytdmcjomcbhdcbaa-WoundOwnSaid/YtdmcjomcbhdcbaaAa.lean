/- One element more behind a row of the program's own, told closely: what was there stays; rows by colors. No program walked. -/
import Derived.Test.YtdmcjomcbhdcbaaRep2
import Derived.ArgAppend
namespace Go.Proofs.Ytdmcjomcbhdcbaa
open Go.RowKit Go.Maps

theorem heap_setCell_cells {w : World} {g j : Nat} {e : TypeId} {cur : Array Value} {fz : Nat × Nat} (hg : w.heap[g]? = some (.cells cur e fz)) (u : Value) : (w.setCell ⟨g, j, none⟩ u).heap[g]? = some (.cells (cur.setIfInBounds j u) e fz) := by
  simp [World.setCell, Array.getElem?_modify, hg]
/-- A row whose block has that color. -/
def RowK (w : World) (c : Nat → Nat) (col : Nat) (e : TypeId) (v : Value) (n : Nat) (xs : List Value) : Prop :=
  w.ownsRow 0 e 1 v n xs ∧ ∀ k, v.ownBlock = some k → c k = col
section
variable {w w' : World} {c c' : Nat → Nat} {col n : Nat} {e : TypeId} {v : Value} {xs : List Value}
theorem RowK.nil (w : World) (c : Nat → Nat) (col : Nat) (e : TypeId) : RowK w c col e (.slice none 0 0) 0 [] := ⟨World.ownsRow_nil _ _ _ _, fun k hk => by simp [Value.ownBlock] at hk⟩
theorem RowK.keep (h : RowK w c col e v n xs) (hk : ∀ k, v.ownBlock = some k → w'.heap[k]? = w.heap[k]?) (hc : ∀ k, k < w.heap.size → c' k = c k) : RowK w' c' col e v n xs :=
  ⟨ownsRow_keep h.1 hk, fun k hk => (hc k (h.1.lt k hk).2).trans (h.2 k hk)⟩
theorem RowK.below (h : RowK w c col e v n xs) (hb : Below w.heap.size w w') (hc : ∀ k, k < w.heap.size → c' k = c k) : RowK w' c' col e v n xs :=
  h.keep (fun k hk => hb.block k (h.1.lt k hk).2) hc
theorem RowK.cell {b m : Nat} (h : RowK w c col e (.slice (some ⟨b, 0, none⟩) m n) m xs) {j : Nat} (hj : j < m) : w.cell? ⟨b, j, none⟩ = xs[j]? := h.1.cellAt j (by omega)
/-- A cell of another color's block, or of a place at or behind the row's end, is written: the row stays. -/
theorem RowK.set_far (h : RowK w c col e v n xs) {g j i : Nat} (hg : c g = i) (hj : i = col → n ≤ j) (u : Value) : RowK (w.setCell ⟨g, j, none⟩ u) c col e v n xs := by
  refine ⟨⟨h.1.1, ?_⟩, h.2⟩
  rcases h.1.2 with h0 | ⟨b, cap, cur, rfl, hb, hh, hnc, hcm, hcs, ht⟩
  · exact .inl h0
  · by_cases hgb : g = b
    · subst hgb
      have hcol : i = col := by rw [← hg]; exact h.2 g rfl
      have hnj := hj hcol
      exact .inr ⟨g, cap, _, rfl, hb, heap_setCell_cells hh u, hnc, hcm, by simpa using hcs, by rw [Array.toList_setIfInBounds, List.take_set_of_le (by omega)]; exact ht⟩
    · exact .inr ⟨b, cap, cur, rfl, hb, (Below.heap_setCell w _ u b (fun e' => hgb e'.symm)).trans hh, hnc, hcm, hcs, ht⟩
theorem RowK.set_in {b m : Nat} (h : RowK w c col e (.slice (some ⟨b, 0, none⟩) n m) n xs) (j : Nat) (u : Value) : RowK (w.setCell ⟨b, j, none⟩ u) c col e (.slice (some ⟨b, 0, none⟩) n m) n (xs.set j u) :=
  ⟨(h.1.stored j u).1, h.2⟩
theorem RowK.form (h : RowK w c col e v n xs) (hn : 0 < n) : ∃ b m, v = .slice (some ⟨b, 0, none⟩) n m := by
  obtain ⟨g, cap, e1, _⟩ := h.1.form hn
  exact ⟨g, cap, e1⟩
end
theorem setCells_one (w : World) (b o : Nat) (u : Value) : w.setCells b o [u] = w.setCell ⟨b, o, none⟩ u := rfl
/-- What an append of one element has made: the grown row; every row that is not longer than the old one within its color, and every row of another color. -/
structure Grew (w w' : World) (c c' : Nat → Nat) (i : Nat) (e : TypeId) (v v' : Value) (n : Nat) (xs : List Value) (x : Value) : Prop where
  row : RowK w' c' i e v' (n + 1) (xs ++ [x])
  col : ∀ k, k < w.heap.size → c' k = c k
  touch : Touch (fun k => v.ownBlock = some k) w w'
  blk : ∀ b, v'.ownBlock = some b → v.ownBlock = some b ∨ w.heap.size ≤ b
  keep : ∀ (j m : Nat) (u : Value) (ys : List Value), RowK w c j e u m ys → (j = i → m ≤ n) → RowK w' c' j e u m ys
section
variable {P : Program}
theorem run_append_grew (w : World) (c : Nat → Nat) (col : Nat) (t ty e : TypeId) (i : TypeInfo) (z : Value) (bytes : Nat) (ht : P.underlying t = some (.slice e)) (hi : P.info? e = some i) (hz : i.zero = some z)
    (hsize : i.size = 1) (hby : i.bytes = bytes) (hzs : z.cells.size = 1) (v : Value) (n : Nat) (xs : List Value) (hr : RowK w c col e v n xs)
    (a : Addr) (m : Nat) (x : Value) (hx : w.cell? a = some x) (h1 : x.oneCell' = true) (h63 : n + 1 ≤ maxLen) (hbytes : (n + 1) * bytes ≤ 140737488355328) :
    ∃ v' w' c', (Builtin.append_ #[t, t] ty #[v, .slice (some a) 1 m]).run P w = .ok v' w' ∧ Grew w w' c c' col e v v' n xs x := by
  have hnews : ∀ j u, ([x] : List Value)[j]? = some u → w.cell? (a.add j) = some u := by
    intro j u hu
    match j, hu with
    | 0, hu => rw [← Option.some.inj hu]; exact hx
  have hone : ∀ u ∈ ([x] : List Value), u.oneCell' = true := fun u hu => by rw [List.mem_singleton.1 hu]; exact h1
  -- a new row
  have new : ∀ (v' : Value) (w' : World), w'.ownsRow w.heap.size e 1 v' (n + 1) (xs ++ [x]) → w.grownBy w' none → Grew w w' c (fun k => if k < w.heap.size then c k else col) col e v v' n xs x := fun v' w' ho hg =>
    have hb : Below w.heap.size w w' := ⟨hg.os, hg.tape, hg.output, hg.size, fun k hk => hg.block k hk (by simp)⟩
    have hc : ∀ k, k < w.heap.size → (if k < w.heap.size then c k else col) = c k := fun k hk => if_pos hk
    ⟨⟨ownsRow_keep ⟨ho.1, ho.2.imp id fun ⟨g, cap, cur, h⟩ => ⟨g, cap, cur, h.1, Nat.zero_le _, h.2.2⟩⟩ fun _ _ => rfl, fun k hk => if_neg (by have := (ho.lt k hk).1; omega)⟩, hc, Touch.of_below hb, fun b hb' => .inr (ho.lt b hb').1, fun j m u ys hu _ => hu.below hb hc⟩
  rcases hr.1.2 with ⟨rfl, rfl⟩ | ⟨g, cap, cur, rfl, _, hh, hnc, hcm, hcs, htake⟩
  · obtain ⟨v', w', hrun, ho, hg, _, _⟩ := run_append_own_at (P := P) w w.heap.size t ty e i z 1 bytes ht hi hz hsize hby hzs (by decide) (.slice none 0 0) 0 [] (World.ownsRow_nil _ _ _ _) a 1 m [x] rfl hnews hone h63 hbytes (Nat.le_refl _)
    have hxs : xs = [] := List.eq_nil_of_length_eq_zero (by simpa using hr.1.1)
    subst hxs
    exact ⟨v', w', _, hrun, new v' w' ho hg⟩
  · by_cases hroom : n + 1 ≤ cap
    · have hlen : xs.length = n := by have := hr.1.1; omega
      have hlt : n < cur.size := by omega
      have hrun := run_append_room_cells (P := P) w t ty e i ht hi g 0 n cap a 1 m [x] (by rw [hsize]; rfl) hnews hone hroom
        (fun j hj => by
          have hj0 : j = 0 := by simp at hj; exact hj
          subst hj0
          rw [hsize, show 0 + n * 1 + 0 = n by omega, cell_of_row w g n cur e (0, 0) hh, Array.getElem?_eq_getElem hlt]; rfl)
        (fun j hj => by simp [World.frozen?, hh])
      rw [hsize, show 0 + n * 1 = n by omega, setCells_one] at hrun
      refine ⟨_, _, c, hrun, ⟨⟨⟨by rw [List.length_append, hlen]; simp, .inr ⟨g, cap, cur.setIfInBounds n x, rfl, Nat.zero_le _, heap_setCell_cells hh x, hroom, hcm, by simpa using hcs, ?_⟩⟩, fun k hk => hr.2 k hk⟩, fun _ _ => rfl, Touch.setCell _ _ _ rfl, fun b hb' => .inl hb', fun j m' u ys hu hj => ?_⟩⟩
      · rw [Array.toList_setIfInBounds, Nat.mul_one, List.take_add_one, List.take_set_of_le (Nat.le_refl _), List.getElem?_set_self (by simpa using hlt)]
        rw [Nat.mul_one] at htake
        rw [htake]; rfl
      · exact hu.set_far (i := col) (hr.2 g rfl) (fun e' => hj e'.symm) x
    · obtain ⟨v', w', hrun, ho, hg⟩ := run_append_arg_grows (P := P) w t ty e i z 1 bytes ht hi hz hsize hby hzs (by decide) ⟨g, 0, none⟩ n cap xs hr.1.1 (hr.1.cells rfl) a 1 m [x] rfl hnews (by omega) h63 hbytes
      exact ⟨v', w', _, hrun, new v' w' ho hg⟩

theorem wpList_append_grew (w : World) {ops : Array Oper} {rest : List Oper} {o : Oper} {a : Act} {Q : Exit → Act → World → Prop} (hgd : o.guard = none) (s x : Operand) (t : TypeId)
    (ho : o.op = .call { callee := .builtin .append, args := #[s, x], argTypes := #[t, t] })
    (c : Nat → Nat) (col : Nat) (e : TypeId) (i : TypeInfo) (z : Value) (bytes : Nat) (ht : P.underlying t = some (.slice e)) (hi : P.info? e = some i) (hz : i.zero = some z)
    (hsize : i.size = 1) (hby : i.bytes = bytes) (hzs : z.cells.size = 1) (v : Value) (n : Nat) (xs : List Value) (hs : a.eval s = v) (hr : RowK w c col e v n xs)
    (ad : Addr) (m : Nat) (u : Value) (hx : a.eval x = .slice (some ad) 1 m) (hu : w.cell? ad = some u) (h1 : u.oneCell' = true) (h63 : n + 1 ≤ maxLen) (hbytes : (n + 1) * bytes ≤ 140737488355328)
    (h : ∀ v' w' c', Grew w w' c c' col e v v' n xs u → wpList P ops Q rest (a.put o.dst v') w') : wpList P ops Q (o :: rest) a w := by
  obtain ⟨v', w', c', hrun, hg⟩ := run_append_grew (P := P) w c col t o.type e i z bytes ht hi hz hsize hby hzs v n xs hr ad m u hu h1 h63 hbytes
  refine wpList_plain hgd fun _ hK => ?_
  unfold Oper.wp execOp
  simp only [ho, resolve, invoke, builtin, Sem.run_bind, Sem.run_pure, Result.andThen_ok, List.map_toArray, List.map_cons, List.map_nil, hs, hx, hrun]
  exact hK _ _ (h v' w' c' hg)
end
end Go.Proofs.Ytdmcjomcbhdcbaa
