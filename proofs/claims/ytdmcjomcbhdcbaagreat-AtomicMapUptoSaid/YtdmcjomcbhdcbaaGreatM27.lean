/- The document's disk, walked: what goes through its gate.; The document's disk, walked: its calls.; The document's drive, walked: Flip. -/
import Derived.Test.YtdmcjomcbhdcbaaGreatM26
import Derived.Test.YtdmcjomcbhdcbaaGreatM21
import Derived.Test.YtdmcjomcbhdcbaaGreatM17
namespace Go.Proofs.YtdmcjomcbhdcbaaGreat
open Go.RowKit Go.Maps

/-- The gate of a disk: its cells, and what a store of another one leaves. -/
theorem DK.gate {w : World} {q p : Nat} {X : Wnd} {S : Drv} {F : Nat → Prop} (hk : DK w q p X S F) :
    ∃ g, GateIn w q X g ∧ w.ownsRow 0 181 2 (.slice g.pa g.pn g.pc) g.pn (planCells X.plan) ∧ w.cell? ⟨q, 0, none⟩ = some (.pointer (some ⟨p, 0, none⟩)) ∧ ∀ (w1 : World) (g' : GCells) (Y : Wnd), Below w.heap.size w w1 → GateOf Y g' → (w1.ownsRow w.heap.size 181 2 (.slice g'.pa g'.pn g'.pc) g'.pn (planCells Y.plan) ∨ g'.pa = g.pa ∧ g'.pn = g.pn ∧ g'.pc = g.pc ∧ Y.plan = X.plan) →
      DK (setG w1 q g') q p Y S (grow F w (setG w1 q g')) ∧ Touch F w (setG w1 q g') := by
  obtain ⟨FG, FM, hk, hF⟩ := hk
  obtain ⟨g, hg, hq, hpl⟩ := hk.gt
  refine ⟨g, ⟨hg.of, hg.head.cell 1, hg.head.cell 2, hg.head.cell 3, hg.head.cell 4, hg.head.cell 5, hg.head.cell 6, hg.head.cell 7, hg.head.cell 8, hg.head.cell 9, hg.head.frozen, hg.head.lt⟩, hg.plan, hg.head.cell 0, fun w1 g' Y' hb hof hrow => ?_⟩
  have hhd := hg.head.below hb hg.head.lt
  have ht : Touch FG w (setG w1 q g') := (Touch.of_below hb).then_ ((setG_touch w1 q g').mono fun k _ e => by rw [e]; exact hq)
  have hgt : Gt (setG w1 q g') q (.pointer (some ⟨p, 0, none⟩)) Y' (grow FG w (setG w1 q g')) := by
    refine ⟨g', ⟨setG_blk hhd g', hof, ?_⟩, .inl hq, fun k e => ?_⟩
    · rcases hrow with hrow | ⟨e1, e2, e3, e4⟩
      · exact ownsRow_base_a (ownsRow_keep hrow fun k e => (setG_touch w1 q g').block k (hrow.lt k e).2 (fun e2 => own_blk_ne hrow hhd (by decide) (by rw [e, e2]))) (Nat.zero_le _)
      · have := ownsRow_below hg.plan hb
        rw [e1, e2, e3, e4]
        exact ownsRow_keep this fun k e => (setG_touch w1 q g').block k (this.lt k e).2 (fun e2 => own_blk_ne this hhd (by decide) (by rw [e, e2]))
    · rcases hrow with hrow | ⟨e1, e2, e3, e4⟩
      · exact .inr ⟨(hrow.lt k e).1, by rw [setG_size]; exact (hrow.lt k e).2⟩
      · rw [e1, e2, e3] at e; exact .inl (hpl k e)
  exact hk.gate hF hgt ht

/-- How many bytes of an Append that is struck go all the same. -/
def askB (gk ins size : Int) : Int := if gk = 2 ∧ 0 ≤ ins then min ins size else 0

end Go.Proofs.YtdmcjomcbhdcbaaGreat
namespace Go.Proofs.YtdmcjomcbhdcbaaGreat
open Go.RowKit Go.Maps

/-- A call of the drive of a disk. -/
theorem DK.call {W : World} {q p : Nat} {X : Wnd} {S T : Drv} {F : Nat → Prop} {f : FuncId} {ar : Array Value} {R : Ending → World → Prop} (hd : DK W q p X S F)
    (hc : ∀ FM, Md W p S FM → Calls Tryz.prog f ar W fun e w' => R e w' ∧ Md w' p T (grow FM W w') ∧ Touch FM W w') :
    Calls Tryz.prog f ar W fun e w' => R e w' ∧ DK w' q p X T (grow F W w') ∧ Touch F W w' := by
  obtain ⟨FG, FM, hk, hf⟩ := hd
  refine (hc FM hk.md).mono ?_
  rintro e w' ⟨hr, hm, ht⟩
  exact ⟨hr, hk.drive hf hm ht⟩
theorem DK.head {w : World} {q p : Nat} {X : Wnd} {S : Drv} {F : Nat → Prop} (h : DK w q p X S F) : w.cell? ⟨q, 0, none⟩ = some (.pointer (some ⟨p, 0, none⟩)) ∧ q < w.heap.size := by
  obtain ⟨g, hg, _, h0, _⟩ := h.gate
  exact ⟨h0, hg.lt⟩
end Go.Proofs.YtdmcjomcbhdcbaaGreat
namespace Go.Proofs.YtdmcjomcbhdcbaaGreat
open Go.RowKit Go.Maps

end Go.Proofs.YtdmcjomcbhdcbaaGreat
