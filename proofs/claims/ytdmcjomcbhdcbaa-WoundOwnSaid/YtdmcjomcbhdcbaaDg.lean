/- How a drive in memory turns: a body's bytes or its safe ones, a new body, the names made safe. -/
import Derived.Test.YtdmcjomcbhdcbaaDf
import Derived.Test.YtdmcjomcbhdcbaaDd
namespace Go.Proofs.Ytdmcjomcbhdcbaa
open Go.RowKit Go.Maps

section
variable {w w' : World} {q : Nat} {tq : TypeId} {cq : Array Value}
theorem far_dir (hq : Blk w q tq cq) (hf : ∀ k, k ≠ q → w'.heap[k]? = w.heap[k]?) {addr : List Nat} {b : Nat} {D : Dir} (h : DirAt w addr b D) : DirAt w' addr b D := by
  refine h.keep (hf b ?_)
  rintro rfl
  obtain ⟨es, clock, h1, _⟩ := h
  unfold Blk at hq; rw [h1] at hq; injection hq with hq; cases hq
theorem far_blk (hq : Blk w q tq cq) (hf : ∀ k, k ≠ q → w'.heap[k]? = w.heap[k]?) {g : Nat} {t : TypeId} {cs : Array Value} (h : Blk w g t cs) (hne : t ≠ tq) : Blk w' g t cs :=
  (hf g (h.ne_ hq hne)).trans h
theorem far_row (hq : Blk w q tq cq) (hf : ∀ k, k ≠ q → w'.heap[k]? = w.heap[k]?) {base : Nat} {e : TypeId} {n : Nat} {v : Value} {xs : List Value} (h : w.ownsRow base e 1 v n xs) (hne : e ≠ tq) : w'.ownsRow base e 1 v n xs :=
  ownsRow_keep h fun k hk => hf k (fun e' => own_blk_ne h hq hne (by rw [hk, e']))
end

theorem adr_ne {addr : List Nat} (hn : addr.Nodup) {i j : Nat} (hi : i < addr.length) (hj : j < addr.length) (hij : i ≠ j) : adrOf addr i ≠ adrOf addr j := by
  unfold adrOf
  simp only [List.getD, List.getElem?_eq_getElem hi, List.getElem?_eq_getElem hj, Option.getD_some]
  intro e
  rcases Nat.lt_or_gt_of_ne hij with h | h
  · exact (List.pairwise_iff_getElem.1 hn) i j hi hj h e
  · exact (List.pairwise_iff_getElem.1 hn) j i hj hi h e.symm

theorem Drv.setBody_same (S : Drv) {i : Nat} (h : i < S.bodies.length) (B : Body) : (S.setBody i B).body i = B := by simp [Drv.setBody, Drv.body, List.getD, h]
theorem Drv.setBody_other (S : Drv) {i j : Nat} (h : j ≠ i) (B : Body) : (S.setBody i B).body j = S.body j := by
  simp [Drv.setBody, Drv.body, List.getD, Ne.symm h]
theorem Drv.setBody_length (S : Drv) (i : Nat) (B : Body) : (S.setBody i B).bodies.length = S.bodies.length := by simp [Drv.setBody]

section
variable {w w1 : World} {p : Nat} {S : Drv} {L : Lay}
theorem DrvAt.setSafe (h : DrvAt w p S L) {i : Nat} (hi : i < S.bodies.length) (n : Nat) :
    DrvAt (w.setCell ⟨L.adr i, 1, none⟩ (.int .i64 n)) p (S.setBody i ⟨(S.body i).data, n⟩) L := by
  have hq := h.body i hi
  have hf : ∀ k, k ≠ L.adr i → (w.setCell ⟨L.adr i, 1, none⟩ (.int .i64 n)).heap[k]? = w.heap[k]? := fun k hk => Below.heap_setCell w _ _ k hk
  exact {
    head := far_blk hq hf h.head (by decide)
    now := far_dir hq hf h.now
    kept := far_dir hq hf h.kept
    ne := h.ne, nodup := h.nodup
    la := by rw [Drv.setBody_length]; exact h.la
    lv := by rw [Drv.setBody_length]; exact h.lv
    body := fun j hj => by
      rw [Drv.setBody_length] at hj
      by_cases e : j = i
      · subst e; rw [Drv.setBody_same _ hi]; exact hq.set_ 1 _
      · rw [Drv.setBody_other _ e]
        exact (hf _ (adr_ne h.nodup (by rw [h.la]; exact hj) (by rw [h.la]; exact hi) e)).trans (h.body j hj)
    data := fun j hj => by
      rw [Drv.setBody_length] at hj
      have e : ((S.setBody i ⟨(S.body i).data, n⟩).body j).data = (S.body j).data := by
        by_cases e : j = i
        · subst e; rw [Drv.setBody_same _ hi]
        · rw [Drv.setBody_other _ e]
      have e2 : (S.setBody i ⟨(S.body i).data, n⟩).len j = S.len j := by unfold Drv.len; rw [e]
      rw [e, e2]
      exact far_row hq hf (h.data j hj) (by decide)
    rows := fun a b ha hb hab => h.rows a b (by rw [Drv.setBody_length] at ha; exact ha) (by rw [Drv.setBody_length] at hb; exact hb) hab
    pend := far_row hq hf h.pend (by decide)
    li := h.li, pok := h.pok
    inner := fun j hj => far_blk hq hf (h.inner j hj) (by decide) }

theorem val_set (L : Lay) {i j : Nat} (hi : i < L.vals.length) (v : Value) : (Lay.val { L with vals := L.vals.set i v } j) = if j = i then v else L.val j := by
  unfold Lay.val
  by_cases e : j = i
  · subst e; simp [List.getD, hi]
  · simp [List.getD, Ne.symm e, e]

/-- A body's bytes have turned: 'w1' behind the law on append, the new row in the old one's place or new; then the body's cell is written. -/
theorem DrvAt.setData (h : DrvAt w p S L) {i : Nat} (hi : i < S.bodies.length) {v : Value} {bs : List UInt8} (ho : w1.ownsRow 0 5 1 v bs.length (bs.map B8)) (hg : w.grownBy w1 (L.val i).ownBlock)
    (hat : v.ownBlock = (L.val i).ownBlock ∨ ∀ k, v.ownBlock = some k → w.heap.size ≤ k) :
    DrvAt (w1.setCell ⟨L.adr i, 0, none⟩ v) p (S.setBody i ⟨bs, (S.body i).safe⟩) { L with vals := L.vals.set i v } := by
  have hil : i < L.vals.length := by rw [h.lv]; exact hi
  have hrow := h.data i hi
  have dirs : ∀ {b : Nat} {D : Dir}, DirAt w L.addr b D → DirAt w1 L.addr b D := by
    intro b D h1
    refine h1.keep (hg.block b h1.lt ?_)
    obtain ⟨es, clock, h2, _⟩ := h1
    intro e
    rcases hrow.2 with ⟨e2, _⟩ | ⟨g', cap, cur, e2, _, hh, _⟩
    · rw [e2] at e; simp [Value.ownBlock] at e
    · rw [e2] at e
      have : b = g' := by simpa [Value.ownBlock] using e
      subst this; rw [h2] at hh; injection hh with hh; cases hh
  have blks : ∀ {b : Nat} {t : TypeId} {cs : Array Value}, Blk w b t cs → 5 ≠ t → Blk w1 b t cs := fun h1 hne => h1.grown hg (fun e => own_blk_ne hrow h1 hne e.symm)
  have hq : Blk w1 (L.adr i) 113 #[L.val i, .int .i64 (S.body i).safe] := blks (h.body i hi) (by decide)
  have hf : ∀ k, k ≠ L.adr i → (w1.setCell ⟨L.adr i, 0, none⟩ v).heap[k]? = w1.heap[k]? := fun k hk => Below.heap_setCell w1 _ _ k hk
  have otherRow : ∀ j, j < S.bodies.length → j ≠ i → w1.ownsRow 0 5 1 (L.val j) (S.len j) ((S.body j).data.map B8) := fun j hj e =>
    (h.data j hj).kept hg (by rcases h.rows j i hj hi e with h1 | h1; exact .inl h1; exact .inr h1)
  have newNe : ∀ j, j < S.bodies.length → j ≠ i → (L.val j).ownBlock = none ∨ (L.val j).ownBlock ≠ v.ownBlock := by
    intro j hj e
    rcases hat with h1 | h1
    · rw [h1]; exact h.rows j i hj hi e
    · cases hb : (L.val j).ownBlock with
      | none => exact .inl rfl
      | some k =>
        refine .inr fun e2 => ?_
        have h2 := h1 k e2.symm
        have h3 := ((h.data j hj).lt k hb).2
        omega
  exact {
    head := far_blk hq hf (blks h.head (by decide)) (by decide)
    now := far_dir hq hf (dirs h.now)
    kept := far_dir hq hf (dirs h.kept)
    ne := h.ne, nodup := h.nodup
    la := by rw [Drv.setBody_length]; exact h.la
    lv := by rw [Drv.setBody_length, List.length_set]; exact h.lv
    body := fun j hj => by
      rw [Drv.setBody_length] at hj
      rw [val_set L hil]
      by_cases e : j = i
      · subst e; rw [Drv.setBody_same _ hi, if_pos rfl]; exact hq.set_ 0 _
      · rw [Drv.setBody_other _ e, if_neg e]
        exact (hf _ (adr_ne h.nodup (by rw [h.la]; exact hj) (by rw [h.la]; exact hi) e)).trans (blks (h.body j hj) (by decide))
    data := fun j hj => by
      rw [Drv.setBody_length] at hj
      rw [val_set L hil]
      unfold Drv.len
      by_cases e : j = i
      · subst e; rw [Drv.setBody_same _ hi, if_pos rfl]; exact far_row hq hf ho (by decide)
      · rw [Drv.setBody_other _ e, if_neg e]; exact far_row hq hf (otherRow j hj e) (by decide)
    rows := fun a b ha hb hab => by
      rw [Drv.setBody_length] at ha hb
      rw [val_set L hil, val_set L hil]
      by_cases ea : a = i
      · subst ea
        rw [if_pos rfl, if_neg (Ne.symm hab)]
        rcases newNe b hb (Ne.symm hab) with h1 | h1
        · rw [h1]
          cases v.ownBlock with
          | none => exact .inl rfl
          | some k => exact .inr (by simp)
        · exact .inr (Ne.symm h1)
      · rw [if_neg ea]
        by_cases eb : b = i
        · subst eb; rw [if_pos rfl]; exact newNe a ha ea
        · rw [if_neg eb]; exact h.rows a b ha hb hab
    pend := far_row hq hf (h.pend.kept hg (own_ne h.pend hrow (by decide))) (by decide)
    li := h.li, pok := h.pok
    inner := fun j hj => far_blk hq hf (blks (h.inner j hj) (by decide)) (by decide) }

theorem chgCells_more (addr : List Nat) (b : Nat) (c : List Stp) (h : okC addr c) : chgCells (addr ++ [b]) c = chgCells addr c := by
  unfold chgCells
  induction c with
  | nil => rfl
  | cons s c ih =>
    rw [List.flatMap_cons, List.flatMap_cons, ih (fun x hx => h x (List.mem_cons_of_mem _ hx))]
    congr 1
    cases hi : s.2 with
    | none => rfl
    | some i =>
      have := (h s List.mem_cons_self).2 i hi
      simp only [ptrO, adrOf]
      rw [getD_snoc_lt this]

theorem okC_more {addr : List Nat} {c : List Stp} (h : okC addr c) (more : List Nat) : okC (addr ++ more) c := fun s hs => ⟨(h s hs).1, fun i hi => by have := (h s hs).2 i hi; simp; omega⟩

/-- A body more, without a byte, in a new block. -/
theorem DrvAt.addBody (h : DrvAt w p S L) :
    DrvAt (w.alloc (.cells #[.slice none 0 0, .int .i64 0] 113)) p { S with bodies := S.bodies ++ [⟨[], 0⟩] } { L with addr := L.addr ++ [w.heap.size], vals := L.vals ++ [.slice none 0 0] } := by
  have hk : ∀ k, k < w.heap.size → (w.alloc (.cells #[.slice none 0 0, .int .i64 0] 113)).heap[k]? = w.heap[k]? := fun k hk => Below.heap_alloc w _ k hk
  have h1 := h.keep (w' := w.alloc (.cells #[.slice none 0 0, .int .i64 0] 113)) fun k hf => hk k (h.foot_lt hf)
  have alt : ∀ i, i < S.bodies.length → Lay.adr { L with addr := L.addr ++ [w.heap.size], vals := L.vals ++ [.slice none 0 0] } i = L.adr i := fun i hi => getD_snoc_lt (by rw [h.la]; exact hi)
  have aeq : Lay.adr { L with addr := L.addr ++ [w.heap.size], vals := L.vals ++ [.slice none 0 0] } S.bodies.length = w.heap.size := by rw [← h.la]; exact getD_snoc_eq
  have vlt : ∀ i, i < S.bodies.length → Lay.val { L with addr := L.addr ++ [w.heap.size], vals := L.vals ++ [.slice none 0 0] } i = L.val i := fun i hi => getD_snoc_lt (by rw [h.lv]; exact hi)
  have veq : Lay.val { L with addr := L.addr ++ [w.heap.size], vals := L.vals ++ [.slice none 0 0] } S.bodies.length = .slice none 0 0 := by rw [← h.lv]; exact getD_snoc_eq
  have blt : ∀ i, i < S.bodies.length → Drv.body { S with bodies := S.bodies ++ [⟨[], 0⟩] } i = S.body i := fun i hi => getD_snoc_lt hi
  have beq : Drv.body { S with bodies := S.bodies ++ [⟨[], 0⟩] } S.bodies.length = ⟨[], 0⟩ := getD_snoc_eq
  have hlast : ∀ i, i < (S.bodies ++ [(⟨[], 0⟩ : Body)]).length → ¬ i < S.bodies.length → i = S.bodies.length := fun i hi hn => by simp at hi; omega
  exact {
    head := h1.head
    now := h1.now.more _
    kept := h1.kept.more _
    ne := h.ne
    nodup := by
      rw [List.nodup_append]
      refine ⟨h.nodup, by simp, fun a ha b hb e => ?_⟩
      simp at hb; subst hb; subst e
      have := h.foot_lt (.inr (.inr (.inr (.inl ha))))
      omega
    la := by simp [h.la]
    lv := by simp [h.lv]
    body := fun i hi => by
      by_cases e : i < S.bodies.length
      · rw [alt i e, vlt i e, blt i e]; exact h1.body i e
      · have := hlast i hi e; subst this; rw [aeq, veq, beq]; exact Blk.new _ _ _
    data := fun i hi => by
      unfold Drv.len
      by_cases e : i < S.bodies.length
      · rw [vlt i e, blt i e]; exact h1.data i e
      · have := hlast i hi e; subst this; rw [veq, beq]; exact World.ownsRow_nil _ _ _ _
    rows := fun a b ha hb hab => by
      by_cases ea : a < S.bodies.length
      · rw [vlt a ea]
        by_cases eb : b < S.bodies.length
        · rw [vlt b eb]; exact h.rows a b ea eb hab
        · have := hlast b hb eb; subst this; rw [veq]
          cases (L.val a).ownBlock with
          | none => exact .inl rfl
          | some k => exact .inr (by simp [Value.ownBlock])
      · have := hlast a ha ea; subst this; rw [veq]; exact .inl rfl
    pend := h1.pend
    li := h.li
    pok := fun c hc => okC_more (h.pok c hc) _
    inner := fun j hj => by
      have hj' : j < S.pending.length := hj
      have hm : S.pending.getD j [] ∈ S.pending := getD_mem _ hj'
      show Blk _ (L.inr j) _ (chgCells (L.addr ++ [w.heap.size]) (S.pending.getD j [])).toArray
      rw [chgCells_more _ _ _ (h.pok _ hm)]; exact h1.inner j hj' }

/-- The names are made safe: a copy of the map is kept; nothing is pending. -/
theorem DrvAt.setKept (h : DrvAt w p S L) {m : Nat} (hm : DirAt w L.addr m S.now) (hne : L.nowM ≠ m) :
    DrvAt ((w.setCell ⟨p, 3, none⟩ (.map (some m))).setCell ⟨p, 4, none⟩ (.slice none 0 0)) p S.syncDir { L with keptM := m, pv := .slice none 0 0, inner := [] } := by
  have hq := h.head
  have hf : ∀ k, k ≠ p → ((w.setCell ⟨p, 3, none⟩ (.map (some m))).setCell ⟨p, 4, none⟩ (.slice none 0 0)).heap[k]? = w.heap[k]? := fun k hk =>
    (Below.heap_setCell _ _ _ k hk).trans (Below.heap_setCell w _ _ k hk)
  exact {
    head := (hq.set_ 3 (.map (some m))).set_ 4 (.slice none 0 0)
    now := far_dir hq hf h.now
    kept := far_dir hq hf hm
    ne := hne, nodup := h.nodup, la := h.la, lv := h.lv
    body := fun i hi => far_blk hq hf (h.body i hi) (by decide)
    data := fun i hi => far_row hq hf (h.data i hi) (by decide)
    rows := h.rows
    pend := World.ownsRow_nil _ _ _ _
    li := rfl
    pok := fun c hc => absurd hc (by simp [Drv.syncDir])
    inner := fun j hj => absurd hj (by simp [Drv.syncDir]) }
end
end Go.Proofs.Ytdmcjomcbhdcbaa
