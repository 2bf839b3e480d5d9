/- A contract of a drive, as one of the wound on it. -/
import Derived.Test.YtdiaihpilniikaaGreatM20
namespace Go.Proofs.YtdiaihpilniikaaGreat
open Go.RowKit Go.Maps
theorem wd_lift {w : World} {q p : Nat} {X : Wnd} {S T : Drv} {F : Nat → Prop} {f : Nat} {args : Array Value} {R : Ending → Prop} (h : WD w q p X S F)
    (hc : ∀ FD, Dr w p S FD → (∀ k, FD k → F k) → Calls Tryz.prog f args w fun e w' => R e ∧ Dr w' p T (grow FD w w') ∧ Touch FD w w') :
    Calls Tryz.prog f args w fun e w' => R e ∧ WD w' q p X T (grow F w w') ∧ Touch F w w' := by
  obtain ⟨FW, FD, hA, hF⟩ := h
  refine (hc FD hA.dr fun k hk => hF k (.inr hk)).mono ?_
  rintro e w' ⟨he, hd, ht⟩
  refine ⟨he, ⟨_, _, hA.drive hd ht, fun k hk => ?_⟩, ht.mono fun k _ hk => hF k (.inr hk)⟩
  rcases hk with hk | hk | hk
  · exact .inl (hF k (.inl hk))
  · exact .inl (hF k (.inr hk))
  · exact .inr hk
end Go.Proofs.YtdiaihpilniikaaGreat
