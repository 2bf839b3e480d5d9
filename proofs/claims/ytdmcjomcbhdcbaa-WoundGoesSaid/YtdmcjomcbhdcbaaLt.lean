/- The law's helper 'hurt', at every kind. -/
import Derived.Test.YtdmcjomcbhdcbaaLs
import Derived.Test.YtdmcjomcbhdcbaaLj
namespace Go.Proofs.Ytdmcjomcbhdcbaa
open Go.RowKit Go.Maps

def hurt25 (X : Wnd) (S : Drv) (x : PStep) : Wnd × Drv × Said :=
  if 1 ≤ x.kind ∧ x.kind ≤ 8 then hurt8 X S x
  else if x.kind = 9 then (X.arm x.plan, S, .none_)
  else if x.kind = 10 then (X, S, { Said.none_ with n := X.calls })
  else if x.kind = 11 then ({ X with away := x.yes }, S, .none_)
  else if x.kind = 12 then (X.setFuse x.a x.b x.c, S, .none_)
  else if x.kind = 13 then (X, S, { Said.none_ with yes := X.lit })
  else if x.kind = 14 then (X.rest x.yes, S, .none_)
  else if x.kind = 15 then ({ X with down := !x.yes }, S, .none_)
  else if x.kind = 16 then (X, S, { Said.none_ with yes := (!X.down) })
  else (X, (plain25 S x).1, (plain25 S x).2)

theorem hurt25_arm {X : Wnd} {S : Drv} {x : PStep} (h : x.kind = 9) : hurt25 X S x = (X.arm x.plan, S, .none_) := by unfold hurt25; simp only [h]; rfl
theorem hurt25_calls {X : Wnd} {S : Drv} {x : PStep} (h : x.kind = 10) : hurt25 X S x = (X, S, { Said.none_ with n := X.calls }) := by unfold hurt25; simp only [h]; rfl
theorem hurt25_offline {X : Wnd} {S : Drv} {x : PStep} (h : x.kind = 11) : hurt25 X S x = ({ X with away := x.yes }, S, .none_) := by unfold hurt25; simp only [h]; rfl
theorem hurt25_fuse {X : Wnd} {S : Drv} {x : PStep} (h : x.kind = 12) : hurt25 X S x = (X.setFuse x.a x.b x.c, S, .none_) := by unfold hurt25; simp only [h]; rfl
theorem hurt25_lit {X : Wnd} {S : Drv} {x : PStep} (h : x.kind = 13) : hurt25 X S x = (X, S, { Said.none_ with yes := X.lit }) := by unfold hurt25; simp only [h]; rfl
theorem hurt25_rest {X : Wnd} {S : Drv} {x : PStep} (h : x.kind = 14) : hurt25 X S x = (X.rest x.yes, S, .none_) := by unfold hurt25; simp only [h]; rfl
theorem hurt25_power {X : Wnd} {S : Drv} {x : PStep} (h : x.kind = 15) : hurt25 X S x = ({ X with down := !x.yes }, S, .none_) := by unfold hurt25; simp only [h]; rfl
theorem hurt25_on {X : Wnd} {S : Drv} {x : PStep} (h : x.kind = 16) : hurt25 X S x = (X, S, { Said.none_ with yes := (!X.down) }) := by unfold hurt25; simp only [h]; rfl
theorem hurt25_call {X : Wnd} {S : Drv} {x : PStep} (h : 1 ≤ x.kind ∧ x.kind ≤ 8) : hurt25 X S x = hurt8 X S x := by unfold hurt25; rw [if_pos h]
theorem hurt25_own {X : Wnd} {S : Drv} {x : PStep} (h : ¬(1 ≤ x.kind ∧ x.kind ≤ 16)) : hurt25 X S x = (X, (plain25 S x).1, (plain25 S x).2) := by
  unfold hurt25
  rw [if_neg (by omega)]
  rw [if_neg (by omega)]
  rw [if_neg (by omega)]
  rw [if_neg (by omega)]
  rw [if_neg (by omega)]
  rw [if_neg (by omega)]
  rw [if_neg (by omega)]
  rw [if_neg (by omega)]
  rw [if_neg (by omega)]

theorem hurt25_any (q p : Nat) (X : Wnd) (S : Drv) (N : Nat) (F : Nat → Prop) (x : PStep) (L : SLay) (w : World) (B : Nat) (hx : x.Fits) (hd : WD w q p X S F) (hF : ∀ k, F k → k < w.heap.size) (hX : X.Ok) (hI : S.Inv N) (hN : N ≤ 2199023254000) (hB : B ≤ w.heap.size) (hxa : StepAt w B L x) (hap : 0 < x.plan.length → ∀ ad, L.pp = some ad → ¬F ad.block) :
    Calls Try.prog 37 #[.pointer (some ⟨q, 0, none⟩), .agg (stepCells x L)] w fun e w' =>
      ∃ u, e = .returned u ∧ SaidAt w' w.heap.size u (hurt25 X S x).2.2 ∧ WD w' q p (hurt25 X S x).1 (hurt25 X S x).2.1 (grow F w w') ∧ Touch F w w' := by
  have hS := hI.small hN
  by_cases h8 : 1 ≤ x.kind ∧ x.kind ≤ 8
  · rw [hurt25_call h8]; exact hurt8_any q p X S F x L w B h8 hx hd hF hX hS hB hxa
  · by_cases h : 1 ≤ x.kind ∧ x.kind ≤ 16
    · rcases (show x.kind = 9 ∨ x.kind = 10 ∨ x.kind = 11 ∨ x.kind = 12 ∨ x.kind = 13 ∨ x.kind = 14 ∨ x.kind = 15 ∨ x.kind = 16 by omega) with h | h | h | h | h | h | h | h
      · rw [hurt25_arm h]; exact hurt_arm q p X S F x L w h hx hd hF hX hS B hB hxa hap
      · rw [hurt25_calls h]; exact hurt_calls q p X S F x L w h hx hd hF hX hS
      · rw [hurt25_offline h]; exact hurt_offline q p X S F x L w h hx hd hF hX hS
      · rw [hurt25_fuse h]; exact hurt_fuse q p X S F x L w h hx hd hF hX hS
      · rw [hurt25_lit h]; exact hurt_lit q p X S F x L w h hx hd hF hX hS
      · rw [hurt25_rest h]; exact hurt_rest q p X S F x L w h hx hd hF hX hS
      · rw [hurt25_power h]; exact hurt_power q p X S F x L w h hx hd hF hX hS
      · rw [hurt25_on h]; exact hurt_on q p X S F x L w h hx hd hF hX hS
    · rw [hurt25_own h]; exact hurt_other q p X S F x L w h hx hd hF hX hS N hI hN B hB hxa
end Go.Proofs.Ytdmcjomcbhdcbaa
