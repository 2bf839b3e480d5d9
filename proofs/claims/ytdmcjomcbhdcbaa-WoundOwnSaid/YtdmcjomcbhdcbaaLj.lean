/- A step of the eight calls, on a plain drive and on a wound; an unhurt wound answers as its drive does. -/
import Derived.Test.YtdmcjomcbhdcbaaLi
import Derived.Deep.MidRow
namespace Go.Proofs.Ytdmcjomcbhdcbaa
open Go.RowKit Go.Maps

theorem plain8_any (p : Nat) (S : Drv) (F : Nat → Prop) (x : PStep) (L : SLay) (w : World) (B : Nat) (hk : 1 ≤ x.kind ∧ x.kind ≤ 8) (hx : x.Fits) (hd : Dr w p S F) (hF : ∀ k, F k → k < w.heap.size) (hS : S.Small) (hB : B ≤ w.heap.size) (hxa : StepAt w B L x) :
    Calls Try.prog 41 #[.pointer (some ⟨p, 0, none⟩), .agg (stepCells x L)] w fun e w' =>
      ∃ u, e = .returned u ∧ SaidAt w' w.heap.size u (plain8 S x).2 ∧ Dr w' p (plain8 S x).1 (grow F w w') ∧ Touch F w w' := by
  rcases (show x.kind = 1 ∨ x.kind = 2 ∨ x.kind = 3 ∨ x.kind = 4 ∨ x.kind = 5 ∨ x.kind = 6 ∨ x.kind = 7 ∨ x.kind = 8 by omega) with h | h | h | h | h | h | h | h
  · have e : plain8 S x = ((S.create x.nm).1, .code (S.create x.nm).2) := by unfold plain8; rw [if_pos h]
    rw [e]; exact plain_create p S F x L w h hx hd hF hS
  · have e : plain8 S x = ((S.append x.nm x.data).1, .code (S.append x.nm x.data).2) := by unfold plain8; rw [if_neg (by omega), if_pos h]
    rw [e]; exact plain_append p S F x L w h hx hd hF hS B hB hxa
  · have e : plain8 S x = ((S.sync x.nm).1, .code (S.sync x.nm).2) := by unfold plain8; rw [if_neg (by omega), if_neg (by omega), if_pos h]
    rw [e]; exact plain_sync p S F x L w h hx hd hF hS
  · have e : plain8 S x = ((S.rename x.nm x.tn).1, .code (S.rename x.nm x.tn).2) := by unfold plain8; rw [if_neg (by omega), if_neg (by omega), if_neg (by omega), if_pos h]
    rw [e]; exact plain_rename p S F x L w h hx hd hF hS
  · have e : plain8 S x = ((S.remove x.nm).1, .code (S.remove x.nm).2) := by unfold plain8; rw [if_neg (by omega), if_neg (by omega), if_neg (by omega), if_neg (by omega), if_pos h]
    rw [e]; exact plain_remove p S F x L w h hx hd hF hS
  · have e : plain8 S x = (S.syncDir, .code 0) := by unfold plain8; rw [if_neg (by omega), if_neg (by omega), if_neg (by omega), if_neg (by omega), if_neg (by omega), if_pos h]
    rw [e]; exact plain_syncDir p S F x L w h hx hd hF hS
  · have e : plain8 S x = (S, { Said.none_ with data := (S.read x.nm).1, e := (S.read x.nm).2 }) := by unfold plain8; rw [if_neg (by omega), if_neg (by omega), if_neg (by omega), if_neg (by omega), if_neg (by omega), if_neg (by omega), if_pos h]
    rw [e]; exact plain_read p S F x L w h hx hd hF hS
  · have e : plain8 S x = (S, { Said.none_ with names := dnames S.now, e := 0 }) := by unfold plain8; rw [if_neg (by omega), if_neg (by omega), if_neg (by omega), if_neg (by omega), if_neg (by omega), if_neg (by omega), if_neg (by omega), if_pos h]
    rw [e]; exact plain_list p S F x L w h hx hd hF hS

/-- The eight calls, on a wound. -/
def hurt8 (X : Wnd) (S : Drv) (x : PStep) : Wnd × Drv × Said :=
  if x.kind = 1 then ((wcall X S true (S.create x.nm)).1, (wcall X S true (S.create x.nm)).2.1, .code (wcall X S true (S.create x.nm)).2.2)
  else if x.kind = 2 then ((wappend X S x.nm x.data).1, (wappend X S x.nm x.data).2.1, .code (wappend X S x.nm x.data).2.2)
  else if x.kind = 3 then ((wcall X S false (S.sync x.nm)).1, (wcall X S false (S.sync x.nm)).2.1, .code (wcall X S false (S.sync x.nm)).2.2)
  else if x.kind = 4 then ((wcall X S false (S.rename x.nm x.tn)).1, (wcall X S false (S.rename x.nm x.tn)).2.1, .code (wcall X S false (S.rename x.nm x.tn)).2.2)
  else if x.kind = 5 then ((wcall X S false (S.remove x.nm)).1, (wcall X S false (S.remove x.nm)).2.1, .code (wcall X S false (S.remove x.nm)).2.2)
  else if x.kind = 6 then ((wcall X S false (S.syncDir, 0)).1, (wcall X S false (S.syncDir, 0)).2.1, .code (wcall X S false (S.syncDir, 0)).2.2)
  else if x.kind = 7 then ((wread X (S.read x.nm)).1, S, { Said.none_ with data := (wread X (S.read x.nm)).2.1, e := (wread X (S.read x.nm)).2.2 })
  else if x.kind = 8 then ((wread X (dnames S.now, (0 : Int))).1, S, { Said.none_ with names := (wread X (dnames S.now, (0 : Int))).2.1, e := (wread X (dnames S.now, (0 : Int))).2.2 })
  else (X, S, .none_)

theorem hurt8_any (q p : Nat) (X : Wnd) (S : Drv) (F : Nat → Prop) (x : PStep) (L : SLay) (w : World) (B : Nat) (hk : 1 ≤ x.kind ∧ x.kind ≤ 8) (hx : x.Fits) (hd : WD w q p X S F) (hF : ∀ k, F k → k < w.heap.size) (hX : X.Ok) (hS : S.Small) (hB : B ≤ w.heap.size) (hxa : StepAt w B L x) :
    Calls Try.prog 37 #[.pointer (some ⟨q, 0, none⟩), .agg (stepCells x L)] w fun e w' =>
      ∃ u, e = .returned u ∧ SaidAt w' w.heap.size u (hurt8 X S x).2.2 ∧ WD w' q p (hurt8 X S x).1 (hurt8 X S x).2.1 (grow F w w') ∧ Touch F w w' := by
  rcases (show x.kind = 1 ∨ x.kind = 2 ∨ x.kind = 3 ∨ x.kind = 4 ∨ x.kind = 5 ∨ x.kind = 6 ∨ x.kind = 7 ∨ x.kind = 8 by omega) with h | h | h | h | h | h | h | h
  · have e : hurt8 X S x = ((wcall X S true (S.create x.nm)).1, (wcall X S true (S.create x.nm)).2.1, .code (wcall X S true (S.create x.nm)).2.2) := by unfold hurt8; rw [if_pos h]
    rw [e]; exact hurt_create q p X S F x L w h hx hd hF hX hS
  · have e : hurt8 X S x = ((wappend X S x.nm x.data).1, (wappend X S x.nm x.data).2.1, .code (wappend X S x.nm x.data).2.2) := by unfold hurt8; rw [if_neg (by omega), if_pos h]
    rw [e]; exact hurt_append q p X S F x L w h hx hd hF hX hS B hB hxa
  · have e : hurt8 X S x = ((wcall X S false (S.sync x.nm)).1, (wcall X S false (S.sync x.nm)).2.1, .code (wcall X S false (S.sync x.nm)).2.2) := by unfold hurt8; rw [if_neg (by omega), if_neg (by omega), if_pos h]
    rw [e]; exact hurt_sync q p X S F x L w h hx hd hF hX hS
  · have e : hurt8 X S x = ((wcall X S false (S.rename x.nm x.tn)).1, (wcall X S false (S.rename x.nm x.tn)).2.1, .code (wcall X S false (S.rename x.nm x.tn)).2.2) := by unfold hurt8; rw [if_neg (by omega), if_neg (by omega), if_neg (by omega), if_pos h]
    rw [e]; exact hurt_rename q p X S F x L w h hx hd hF hX hS
  · have e : hurt8 X S x = ((wcall X S false (S.remove x.nm)).1, (wcall X S false (S.remove x.nm)).2.1, .code (wcall X S false (S.remove x.nm)).2.2) := by unfold hurt8; rw [if_neg (by omega), if_neg (by omega), if_neg (by omega), if_neg (by omega), if_pos h]
    rw [e]; exact hurt_remove q p X S F x L w h hx hd hF hX hS
  · have e : hurt8 X S x = ((wcall X S false (S.syncDir, 0)).1, (wcall X S false (S.syncDir, 0)).2.1, .code (wcall X S false (S.syncDir, 0)).2.2) := by unfold hurt8; rw [if_neg (by omega), if_neg (by omega), if_neg (by omega), if_neg (by omega), if_neg (by omega), if_pos h]
    rw [e]; exact hurt_syncDir q p X S F x L w h hx hd hF hX hS
  · have e : hurt8 X S x = ((wread X (S.read x.nm)).1, S, { Said.none_ with data := (wread X (S.read x.nm)).2.1, e := (wread X (S.read x.nm)).2.2 }) := by unfold hurt8; rw [if_neg (by omega), if_neg (by omega), if_neg (by omega), if_neg (by omega), if_neg (by omega), if_neg (by omega), if_pos h]
    rw [e]; exact hurt_read q p X S F x L w h hx hd hF hX hS
  · have e : hurt8 X S x = ((wread X (dnames S.now, (0 : Int))).1, S, { Said.none_ with names := (wread X (dnames S.now, (0 : Int))).2.1, e := (wread X (dnames S.now, (0 : Int))).2.2 }) := by unfold hurt8; rw [if_neg (by omega), if_neg (by omega), if_neg (by omega), if_neg (by omega), if_neg (by omega), if_neg (by omega), if_neg (by omega), if_pos h]
    rw [e]; exact hurt_list q p X S F x L w h hx hd hF hX hS

/-- Nothing was done to the wound. -/
structure Wnd.Sound (X : Wnd) : Prop where
  down : X.down = false
  away : X.away = false
  plan : X.plan = []
  fuse : X.fuse = none
theorem Wnd.Sound.struck {X : Wnd} (h : X.Sound) (may : Bool) : X.struck may = (X.count, 0, -1) := by
  unfold Wnd.struck Wnd.hits
  rw [h.down, h.away, h.fuse, h.plan]
  rfl
theorem Wnd.Sound.count {X : Wnd} (h : X.Sound) : X.count.Sound := ⟨h.down, h.away, h.plan, h.fuse⟩
theorem Wnd.Sound.rest {X : Wnd} (h : X.Sound) : (X.rest false).Sound := ⟨by unfold Wnd.rest; simp [h.down], h.away, h.plan, by unfold Wnd.rest; rw [h.fuse]⟩
theorem Wnd.Sound.hurt8 {X : Wnd} (h : X.Sound) (S : Drv) (x : PStep) (hk : 1 ≤ x.kind ∧ x.kind ≤ 8) : hurt8 X S x = (X.count, (plain8 S x).1, (plain8 S x).2) := by
  have hc : ∀ may f, wcall X S may f = (X.count, f.1, f.2) := fun may f => by unfold wcall; rw [h.struck]; rfl
  have ha : wappend X S x.nm x.data = (X.count, (S.append x.nm x.data).1, (S.append x.nm x.data).2) := by unfold wappend; rw [h.struck]; rfl
  have hr : ∀ {α : Type} (r : List α × Int), wread X r = (X.count, r.1, r.2) := fun r => by unfold wread; rw [h.struck]; rfl
  unfold Go.Proofs.Ytdmcjomcbhdcbaa.hurt8 plain8
  simp only [hc, ha, hr]
  repeat' (first | rfl | (exfalso; omega) | split)
end Go.Proofs.Ytdmcjomcbhdcbaa
