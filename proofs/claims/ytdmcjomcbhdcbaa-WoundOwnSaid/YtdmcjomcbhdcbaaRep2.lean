/- A whole drive in memory, and what its blocks are. -/
import Derived.Test.YtdmcjomcbhdcbaaRep
namespace Go.Proofs.Ytdmcjomcbhdcbaa
open Go.RowKit Go.Maps

/-- A change's cells: a name and a pointer a step. -/
def chgCells (addr : List Nat) (c : List Stp) : List Value := c.flatMap fun s => [strV s.1, ptrO addr s.2]
def innerV (g : Nat) (c : List Stp) : Value := .slice (some ⟨g, 0, none⟩) c.length c.length

/-- What is asked of a change: its names are texts, its bodies are there. -/
def okC (addr : List Nat) (c : List Stp) : Prop := ∀ s ∈ c, s.1.length ≤ maxLen ∧ ∀ i, s.2 = some i → i < addr.length

/-- Where the parts of a drive lie. -/
structure Lay where
  nowM : Nat
  keptM : Nat
  addr : List Nat
  vals : List Value
  pv : Value
  inner : List Nat

def Lay.val (L : Lay) (i : Nat) : Value := L.vals.getD i (.slice none 0 0)
def Lay.adr (L : Lay) (i : Nat) : Nat := adrOf L.addr i
def Lay.inr (L : Lay) (j : Nat) : Nat := L.inner.getD j 0

structure DrvAt (w : World) (p : Nat) (S : Drv) (L : Lay) : Prop where
  head : Blk w p 90 #[.int .i64 S.room, .int .i64 S.used, .map (some L.nowM), .map (some L.keptM), L.pv]
  now : DirAt w L.addr L.nowM S.now
  kept : DirAt w L.addr L.keptM S.kept
  ne : L.nowM ≠ L.keptM
  nodup : L.addr.Nodup
  la : L.addr.length = S.bodies.length
  lv : L.vals.length = S.bodies.length
  body : ∀ i, i < S.bodies.length → Blk w (L.adr i) 113 #[L.val i, .int .i64 (S.body i).safe]
  data : ∀ i, i < S.bodies.length → w.ownsRow 0 5 1 (L.val i) (S.len i) ((S.body i).data.map B8)
  rows : ∀ i j, i < S.bodies.length → j < S.bodies.length → i ≠ j → (L.val i).ownBlock = none ∨ (L.val i).ownBlock ≠ (L.val j).ownBlock
  pend : w.ownsRow 0 114 1 L.pv S.pending.length (List.zipWith innerV L.inner S.pending)
  li : L.inner.length = S.pending.length
  pok : ∀ c ∈ S.pending, okC L.addr c
  inner : ∀ j, j < S.pending.length → Blk w (L.inr j) 122 (chgCells L.addr (S.pending.getD j [])).toArray

/-- The blocks of a drive. -/
def Lay.foot (L : Lay) (p k : Nat) : Prop := k = p ∨ k = L.nowM ∨ k = L.keptM ∨ k ∈ L.addr ∨ (∃ v ∈ L.vals, v.ownBlock = some k) ∨ L.pv.ownBlock = some k ∨ k ∈ L.inner

theorem ownsRow_keep {w w' : World} {base : Nat} {e : TypeId} {size n : Nat} {v : Value} {xs : List Value} (h : w.ownsRow base e size v n xs) (hk : ∀ k, v.ownBlock = some k → w'.heap[k]? = w.heap[k]?) : w'.ownsRow base e size v n xs := by
  refine ⟨h.1, ?_⟩
  rcases h.2 with h2 | ⟨g, cap, cur, hv, hb, hg, r⟩
  · exact .inl h2
  · exact .inr ⟨g, cap, cur, hv, hb, (hk g (by rw [hv]; rfl)).trans hg, r⟩

theorem getD_mem {α : Type} {l : List α} {i : Nat} (d : α) (h : i < l.length) : l.getD i d ∈ l := by
  simp only [List.getD, List.getElem?_eq_getElem h, Option.getD_some]; exact List.getElem_mem h

theorem DrvAt.keep {w w' : World} {p : Nat} {S : Drv} {L : Lay} (h : DrvAt w p S L) (hk : ∀ k, L.foot p k → w'.heap[k]? = w.heap[k]?) : DrvAt w' p S L where
  head := (hk p (.inl rfl)).trans h.head
  now := h.now.keep (hk _ (.inr (.inl rfl)))
  kept := h.kept.keep (hk _ (.inr (.inr (.inl rfl))))
  ne := h.ne
  nodup := h.nodup
  la := h.la
  lv := h.lv
  body i hi := (hk _ (.inr (.inr (.inr (.inl (getD_mem 0 (by rw [h.la]; exact hi))))))).trans (h.body i hi)
  data i hi := ownsRow_keep (h.data i hi) fun k hv => hk k (.inr (.inr (.inr (.inr (.inl ⟨_, getD_mem _ (by rw [h.lv]; exact hi), hv⟩)))))
  rows := h.rows
  pend := ownsRow_keep h.pend fun k hv => hk k (.inr (.inr (.inr (.inr (.inr (.inl hv))))))
  li := h.li
  pok := h.pok
  inner j hj := (hk _ (.inr (.inr (.inr (.inr (.inr (.inr (getD_mem 0 (by rw [h.li]; exact hj)))))))))|>.trans (h.inner j hj)

theorem DrvAt.foot_lt {w : World} {p : Nat} {S : Drv} {L : Lay} (h : DrvAt w p S L) {k : Nat} (hk : L.foot p k) : k < w.heap.size := by
  rcases hk with rfl | rfl | rfl | hk | ⟨v, hv, hk⟩ | hk | hk
  · exact h.head.lt
  · exact h.now.lt
  · exact h.kept.lt
  · obtain ⟨i, hi, rfl⟩ := List.getElem_of_mem hk
    have := (h.body i (by rw [← h.la]; exact hi)).lt
    simpa [Lay.adr, adrOf, List.getD, hi] using this
  · obtain ⟨i, hi, rfl⟩ := List.getElem_of_mem hv
    have h1 := h.data i (by rw [← h.lv]; exact hi)
    have e : L.val i = L.vals[i] := by simp [Lay.val, List.getD, hi]
    rw [e] at h1
    exact (h1.lt k hk).2
  · exact (h.pend.lt k hk).2
  · obtain ⟨j, hj, rfl⟩ := List.getElem_of_mem hk
    have := (h.inner j (by rw [← h.li]; exact hj)).lt
    simpa [Lay.inr, List.getD, hj] using this

/-- Of what was there nothing has turned but blocks of F. -/
structure Touch (F : Nat → Prop) (w w' : World) : Prop where
  os : w'.os = w.os
  tape : w'.tape = w.tape
  output : w'.output = w.output
  size : w.heap.size ≤ w'.heap.size
  block : ∀ k, k < w.heap.size → ¬F k → w'.heap[k]? = w.heap[k]?

/-- F, and what is new. -/
def grow (F : Nat → Prop) (w w' : World) (k : Nat) : Prop := F k ∨ (w.heap.size ≤ k ∧ k < w'.heap.size)

theorem Touch.refl (F : Nat → Prop) (w : World) : Touch F w w := ⟨rfl, rfl, rfl, Nat.le_refl _, fun _ _ _ => rfl⟩
theorem Touch.trans {F : Nat → Prop} {a b c : World} (h : Touch F a b) (k : Touch (grow F a b) b c) : Touch F a c :=
  ⟨k.os.trans h.os, k.tape.trans h.tape, k.output.trans h.output, Nat.le_trans h.size k.size, fun i hi hn =>
    (k.block i (Nat.lt_of_lt_of_le hi h.size) (fun hg => by rcases hg with hg | ⟨hg, _⟩; exact hn hg; omega)).trans (h.block i hi hn)⟩
theorem Touch.mono {F G : Nat → Prop} {w w' : World} (h : Touch F w w') (hFG : ∀ k, k < w.heap.size → F k → G k) : Touch G w w' :=
  ⟨h.os, h.tape, h.output, h.size, fun k hk hn => h.block k hk (fun hf => hn (hFG k hk hf))⟩
theorem Touch.of_below {F : Nat → Prop} {w w' : World} (h : Below w.heap.size w w') : Touch F w w' := ⟨h.os, h.tape, h.output, h.size, fun k hk _ => h.block k hk⟩
theorem Touch.of_grown {F : Nat → Prop} {w w' : World} {row : Option Nat} (h : w.grownBy w' row) (hr : ∀ k, row = some k → F k) : Touch F w w' :=
  ⟨h.os, h.tape, h.output, h.size, fun k hk hn => h.block k hk (fun e => hn (hr k e.symm))⟩
theorem Touch.below {F : Nat → Prop} {w w' : World} {B : Nat} (h : Touch F w w') (hB : B ≤ w.heap.size) (hF : ∀ k, F k → B ≤ k) : Below B w w' :=
  ⟨h.os, h.tape, h.output, h.size, fun k hk => h.block k (by omega) (fun hf => by have := hF k hf; omega)⟩
theorem Touch.alloc {F : Nat → Prop} (w : World) (o : Obj) : Touch F w (w.alloc o) := .of_below ((Below.refl _ _).alloc (Nat.le_refl _) o)
theorem Touch.drewN {F : Nat → Prop} (w : World) (n : Nat) : Touch F w (w.drewN n) := .of_below (below_drewN (Below.refl _ _) n)
theorem Touch.setCell {F : Nat → Prop} (w : World) (p : Addr) (u : Value) (hp : F p.block) : Touch F w (w.setCell p u) :=
  ⟨rfl, rfl, rfl, by simp [World.setCell], fun k _ hn => Below.heap_setCell w p u k (fun e => hn (by rw [e]; exact hp))⟩
theorem grow_trans {F : Nat → Prop} {a b c : World} (hab : a.heap.size ≤ b.heap.size) (hbc : b.heap.size ≤ c.heap.size) (k : Nat) : grow (grow F a b) b c k ↔ grow F a c k := by
  unfold grow
  constructor
  · rintro ((h | ⟨h1, h2⟩) | ⟨h1, h2⟩)
    · exact .inl h
    · exact .inr ⟨h1, by omega⟩
    · exact .inr ⟨by omega, h2⟩
  · rintro (h | ⟨h1, h2⟩)
    · exact .inl (.inl h)
    · by_cases hk : k < b.heap.size
      · exact .inl (.inr ⟨h1, hk⟩)
      · exact .inr ⟨by omega, h2⟩

/-- A drive in memory, its blocks among F; its bodies at addr. -/
def DrA (w : World) (p : Nat) (S : Drv) (addr : List Nat) (F : Nat → Prop) : Prop := ∃ L, L.addr = addr ∧ DrvAt w p S L ∧ ∀ k, L.foot p k → F k
def Dr (w : World) (p : Nat) (S : Drv) (F : Nat → Prop) : Prop := ∃ addr, DrA w p S addr F

theorem DrA.keep {w w' : World} {p : Nat} {S : Drv} {addr : List Nat} {F G : Nat → Prop} (h : DrA w p S addr F) (ht : Touch G w w') (hd : ∀ k, F k → ¬G k) : DrA w' p S addr F := by
  obtain ⟨L, rfl, hD, hF⟩ := h
  exact ⟨L, rfl, hD.keep fun k hk => ht.block k (hD.foot_lt hk) (hd k (hF k hk)), hF⟩
theorem Dr.keep {w w' : World} {p : Nat} {S : Drv} {F G : Nat → Prop} (h : Dr w p S F) (ht : Touch G w w') (hd : ∀ k, F k → ¬G k) : Dr w' p S F := by
  obtain ⟨addr, h⟩ := h; exact ⟨addr, h.keep ht hd⟩
theorem DrA.mono {w : World} {p : Nat} {S : Drv} {addr : List Nat} {F G : Nat → Prop} (h : DrA w p S addr F) (hFG : ∀ k, F k → G k) : DrA w p S addr G := by
  obtain ⟨L, rfl, hD, hF⟩ := h; exact ⟨L, rfl, hD, fun k hk => hFG k (hF k hk)⟩
theorem Dr.mono {w : World} {p : Nat} {S : Drv} {F G : Nat → Prop} (h : Dr w p S F) (hFG : ∀ k, F k → G k) : Dr w p S G := by
  obtain ⟨addr, h⟩ := h; exact ⟨addr, h.mono hFG⟩
end Go.Proofs.Ytdmcjomcbhdcbaa
