/- Helpers for memory, out of this proof's other texts. -/
import Derived.Test.YtdiaihpilniikaaDj
namespace Go.Proofs.Ytdiaihpilniikaa
open Go.RowKit Go.Maps

theorem alloc_size (w : World) (o : Obj) : (w.alloc o).heap.size = w.heap.size + 1 := by simp
theorem ownsRow_below {w w' : World} {base : Nat} {e : TypeId} {size n : Nat} {v : Value} {xs : List Value} (h : w.ownsRow base e size v n xs) (hb : Below w.heap.size w w') : w'.ownsRow base e size v n xs :=
  ownsRow_keep h fun k hk => hb.block k (h.lt k hk).2
theorem size_set (w : World) (p : Addr) (u : Value) : (w.setCell p u).heap.size = w.heap.size := by simp [World.setCell]
theorem below_drew1 {B : Nat} {a w : World} (h : Below B a w) : Below B a w.drew := below_drewN h 1
theorem Dr.below {w w' : World} {p : Nat} {S : Drv} {F : Nat → Prop} (h : Dr w p S F) (hb : Below w.heap.size w w') : Dr w' p S F :=
  h.keep (Touch.of_below (F := fun _ => False) hb) fun _ _ h => h
theorem row_touch {w2 X : World} {base n s : Nat} {e : TypeId} {v : Value} {xs : List Value} {G : Nat → Prop} (h : w2.ownsRow base e s v n xs) (ht : Touch G w2 X) (hG : ∀ k, G k → k < base) : X.ownsRow base e s v n xs :=
  ownsRow_keep h fun k hk => ht.block k (h.lt k hk).2 fun hg => by have := hG k hg; have := (h.lt k hk).1; omega
theorem touch_drew1 {G : Nat → Prop} {a b : World} (h : Touch G a b) : Touch G a b.drew := h.trans (Touch.drewN b 1)
theorem size_drew1 (w : World) : w.drew.heap.size = w.heap.size := rfl
theorem Touch.set {G : Nat → Prop} {a b : World} (h : Touch G a b) {p : Addr} (hp : G p.block) (u : Value) : Touch G a (b.setCell p u) :=
  ⟨h.os, h.tape, h.output, by have := h.size; simpa [World.setCell] using this, fun k hk hn => (Below.heap_setCell b p u k (fun e => hn (by rw [e]; exact hp))).trans (h.block k hk hn)⟩
theorem Blk.touch {w w' : World} {g : Nat} {t : TypeId} {cs : Array Value} {F : Nat → Prop} (h : Blk w g t cs) (ht : Touch F w w') (hn : ¬F g) : Blk w' g t cs := (ht.block g h.lt hn).trans h
theorem Blk.cellAt {w : World} {g : Nat} {t : TypeId} {cs : Array Value} (h : Blk w g t cs) {i : Nat} (hi : i < cs.size) : ∃ u, w.cell? ⟨g, i, none⟩ = some u := ⟨cs[i], (h.cell i).trans (Array.getElem?_eq_getElem hi)⟩
theorem ownsRow_base_a {W : World} {base base' : Nat} {e : TypeId} {size : Nat} {v : Value} {k : Nat} {xs : List Value} (h : W.ownsRow base e size v k xs) (hb : base' ≤ base) : W.ownsRow base' e size v k xs := by
  obtain ⟨h1, h2⟩ := h
  refine ⟨h1, ?_⟩
  rcases h2 with h2 | ⟨g, cap, cur, hv, hg, hr⟩
  · exact .inl h2
  · exact .inr ⟨g, cap, cur, hv, Nat.le_trans hb hg, hr⟩
end Go.Proofs.Ytdiaihpilniikaa
