/- WoundFuse: what a fused wound answers, in the pure model; two drives side by side in memory. -/
import Derived.Test.YtdmcjomcbhdcbaaFa
namespace Go.Proofs.Ytdmcjomcbhdcbaa
open Go.RowKit Go.Maps

/-- A refused call: whatever its kind. -/
theorem hurt8_refused {X Y : Wnd} {part : Int} (h : ∀ may, X.struck may = (Y, 122, part)) (S : Drv) (x : PStep) (hk : 1 ≤ x.kind ∧ x.kind ≤ 8) :
    hurt8 X S x = (Y, (if x.kind = 2 ∧ 0 < part ∧ x.data ≠ [] then (S.append x.nm (x.data.take part.toNat)).1 else S), .code 122) := by
  have hc : ∀ may f, wcall X S may f = (Y, S, 122) := fun may f => by unfold wcall; rw [h]; rfl
  have hr : ∀ {α : Type} (r : List α × Int), wread X r = (Y, [], 122) := fun r => by unfold wread; rw [h]; rfl
  have ha : wappend X S x.nm x.data = (Y, (if 0 < part ∧ x.data ≠ [] then (S.append x.nm (x.data.take part.toNat)).1 else S), 122) := by
    unfold wappend; rw [h]
    simp only
    rw [if_neg (by decide)]
    split <;> rfl
  by_cases h2 : x.kind = 2
  · unfold hurt8
    rw [if_neg (by omega), if_pos h2, ha]
    by_cases h3 : 0 < part ∧ x.data ≠ []
    · rw [if_pos h3, if_pos ⟨h2, h3⟩]
    · rw [if_neg h3, if_neg (fun e => h3 e.2)]
  · rw [if_neg (fun e => h2 e.1)]
    unfold hurt8
    simp only [hc, hr]
    repeat' (first | rfl | (exfalso; omega) | split)
/-- A call that goes through. -/
theorem hurt8_goes {X Y : Wnd} (h : ∀ may, X.struck may = (Y, 0, -1)) (S : Drv) (x : PStep) (hk : 1 ≤ x.kind ∧ x.kind ≤ 8) : hurt8 X S x = (Y, (plain8 S x).1, (plain8 S x).2) := by
  have hc : ∀ may f, wcall X S may f = (Y, f.1, f.2) := fun may f => by unfold wcall; rw [h]; rfl
  have ha : wappend X S x.nm x.data = (Y, (S.append x.nm x.data).1, (S.append x.nm x.data).2) := by unfold wappend; rw [h]; rfl
  have hr : ∀ {α : Type} (r : List α × Int), wread X r = (Y, r.1, r.2) := fun r => by unfold wread; rw [h]; rfl
  unfold hurt8 plain8
  simp only [hc, ha, hr]
  repeat' (first | rfl | (exfalso; omega) | split)

def Wnd.cutDown (X : Wnd) : Wnd := ⟨true, X.away, X.plan, X.calls + 1, X.round + 1, X.fuse⟩
/-- A wound with a fuse for this round, ahead of the call c, behind j calls of it. -/
structure Wnd.Fused (X : Wnd) (c ins : Int) (j N : Nat) : Prop where
  away : X.away = false
  plan : X.plan = []
  fuse : X.fuse = some ⟨0, c, ins⟩
  calls : 0 ≤ X.calls ∧ X.calls ≤ N
  st : (X.down = false ∧ X.round = j ∧ (c < 0 ∨ (j : Int) ≤ c)) ∨ (X.down = true ∧ 0 ≤ c ∧ c < j ∧ 0 ≤ X.round ∧ X.round ≤ j)
theorem Wnd.Fused.ok {X : Wnd} {c ins : Int} {j N : Nat} (h : X.Fused c ins j N) (hj : j ≤ 2199023254000) (hN : N ≤ 4398046510000) : X.Ok where
  calls := ⟨h.calls.1, by have := h.calls.2; omega⟩
  round := by rcases h.st with h | h <;> omega
  plan := by rw [h.plan]; decide
  fuse := fun f hf => by
    rw [h.fuse] at hf; injection hf with hf; subst hf
    exact ⟨Int.le_refl _, by show (0 : Int) ≤ 9223372036854775807; omega⟩
theorem Wnd.Fused.goes {X : Wnd} {c ins : Int} {j N : Nat} (h : X.Fused c ins j N) (hc : c < 0 ∨ (j : Int) < c) : (∀ may, X.struck may = (X.count, 0, -1)) ∧ X.count.Fused c ins (j + 1) (N + 1) ∧ X.down = false := by
  have hd : X.down = false ∧ X.round = j := by
    rcases h.st with h1 | h1
    · exact ⟨h1.1, h1.2.1⟩
    · omega
  have hh : X.hits = false := by
    unfold Wnd.hits; rw [h.fuse, hd.2]
    have : (c == (j : Int)) = false := by simp; omega
    simp [this]
  refine ⟨fun may => ?_, ⟨h.away, h.plan, h.fuse, ?_, .inl ⟨hd.1, ?_, by omega⟩⟩, hd.1⟩
  · unfold Wnd.struck; rw [hd.1, h.away, hh, h.plan]; rfl
  · have := h.calls; show 0 ≤ X.calls + 1 ∧ X.calls + 1 ≤ _; omega
  · show X.round + 1 = _; rw [hd.2]; omega
theorem Wnd.Fused.hit {X : Wnd} {c ins : Int} {j N : Nat} (h : X.Fused c ins j N) (hc : c = j) : (∀ may, X.struck may = (X.cutDown, 122, max 0 ins)) ∧ X.cutDown.Fused c ins (j + 1) (N + 1) := by
  have hd : X.down = false ∧ X.round = j := by
    rcases h.st with h1 | h1
    · exact ⟨h1.1, h1.2.1⟩
    · omega
  have hh : X.hits = true := by
    unfold Wnd.hits; rw [h.fuse, hd.2, hc]; simp
  refine ⟨fun may => ?_, ⟨h.away, h.plan, h.fuse, ?_, .inr ⟨rfl, by omega, by omega, ?_, ?_⟩⟩⟩
  · unfold Wnd.struck Wnd.inside; rw [hd.1, h.away, hh, h.fuse]; rfl
  · have := h.calls; show 0 ≤ X.calls + 1 ∧ X.calls + 1 ≤ _; omega
  · show 0 ≤ X.round + 1; rw [hd.2]; omega
  · show X.round + 1 ≤ _; rw [hd.2]; omega
theorem Wnd.Fused.off {X : Wnd} {c ins : Int} {j N : Nat} (h : X.Fused c ins j N) (h0 : 0 ≤ c) (hc : c < j) : (∀ may, X.struck may = (X, 122, -1)) ∧ X.Fused c ins (j + 1) (N + 1) ∧ X.down = true := by
  have hd : X.down = true ∧ 0 ≤ X.round ∧ X.round ≤ j := by
    rcases h.st with h1 | h1
    · omega
    · exact ⟨h1.1, h1.2.2.2⟩
  refine ⟨fun may => ?_, ⟨h.away, h.plan, h.fuse, by have := h.calls; omega, .inr ⟨hd.1, h0, by omega, hd.2.1, by omega⟩⟩, hd.1⟩
  unfold Wnd.struck; rw [hd.1]; rfl
theorem Wnd.Fused.lit {X : Wnd} {c ins : Int} {j N : Nat} (h : X.Fused c ins j N) : X.lit = true := by unfold Wnd.lit; rw [h.fuse]; rfl
theorem Wnd.Fused.start {X : Wnd} {N : Nat} (h : X.Sound) (hc : 0 ≤ X.calls ∧ X.calls ≤ N) (c ins : Int) : ((X.rest false).setFuse 0 c ins).Fused c ins 0 N :=
  ⟨h.away, h.plan, rfl, hc, by
    by_cases h0 : 0 ≤ c
    · exact .inl ⟨by show (X.down || false) = false; rw [h.down]; rfl, rfl, .inr h0⟩
    · exact .inl ⟨by show (X.down || false) = false; rw [h.down]; rfl, rfl, .inl (by omega)⟩⟩

/-- A wound on its drive and a second drive, their blocks named. -/
structure Two (W : World) (h q p : Nat) (X : Wnd) (S : Drv) (p2 : Nat) (T : Drv) (F1 F2 : Nat → Prop) : Prop where
  wd : WD W q p X S F1
  dr : Dr W p2 T F2
  l1 : ∀ k, F1 k → h ≤ k ∧ k < W.heap.size
  l2 : ∀ k, F2 k → h ≤ k ∧ k < W.heap.size
  no : ∀ k, F1 k → ¬F2 k
section
variable {W W' : World} {h q p p2 : Nat} {X Y : Wnd} {S S' T T' : Drv} {F1 F2 : Nat → Prop}
theorem Two.pair (t : Two W h q p X S p2 T F1 F2) : Pair W h q p X S p2 T := ⟨F1, F2, t.wd, t.dr, t.l1, t.l2, t.no⟩
theorem Pair.named (t : Pair W h q p X S p2 T) : ∃ F1 F2, Two W h q p X S p2 T F1 F2 := by
  obtain ⟨F1, F2, a, b, c, d, e⟩ := t; exact ⟨F1, F2, a, b, c, d, e⟩
theorem Two.below (t : Two W h q p X S p2 T F1 F2) (hb : Below W.heap.size W W') : Two W' h q p X S p2 T F1 F2 := by
  have := hb.size
  exact ⟨WD.below t.wd hb, Dr.below t.dr hb, fun k hk => ⟨(t.l1 k hk).1, by have := (t.l1 k hk).2; omega⟩, fun k hk => ⟨(t.l2 k hk).1, by have := (t.l2 k hk).2; omega⟩, t.no⟩
theorem Two.one (t : Two W h q p X S p2 T F1 F2) (hh : h ≤ W.heap.size) (hw : WD W' q p Y S' (grow F1 W W')) (ht : Touch F1 W W') : Two W' h q p Y S' p2 T (grow F1 W W') F2 ∧ Below h W W' := by
  have := ht.size
  refine ⟨⟨hw, t.dr.keep ht fun k h2 h1 => t.no k h1 h2, fun k hk => ?_, fun k hk => ⟨(t.l2 k hk).1, by have := (t.l2 k hk).2; omega⟩, fun k hk hk2 => ?_⟩, ht.below hh fun k hk => (t.l1 k hk).1⟩
  · rcases hk with hk | hk
    · exact ⟨(t.l1 k hk).1, by have := (t.l1 k hk).2; omega⟩
    · exact ⟨by omega, hk.2⟩
  · rcases hk with hk | hk
    · exact t.no k hk hk2
    · have := (t.l2 k hk2).2; omega
theorem Two.two (t : Two W h q p X S p2 T F1 F2) (hh : h ≤ W.heap.size) (hw : Dr W' p2 T' (grow F2 W W')) (ht : Touch F2 W W') : Two W' h q p X S p2 T' F1 (grow F2 W W') ∧ Below h W W' := by
  have := ht.size
  refine ⟨⟨t.wd.keep ht fun k h1 h2 => t.no k h1 h2, hw, fun k hk => ⟨(t.l1 k hk).1, by have := (t.l1 k hk).2; omega⟩, fun k hk => ?_, fun k hk hk2 => ?_⟩, ht.below hh fun k hk => (t.l2 k hk).1⟩
  · rcases hk with hk | hk
    · exact ⟨(t.l2 k hk).1, by have := (t.l2 k hk).2; omega⟩
    · exact ⟨by omega, hk.2⟩
  · rcases hk2 with hk2 | hk2
    · exact t.no k hk hk2
    · have := (t.l1 k hk).2; omega
end

theorem wcrash_any (q p : Nat) (X : Wnd) (S : Drv) (N : Nat) (F : Nat → Prop) (pr : Option Addr) (nd cr : Nat) (dirs : List Bool) (pc : Option Addr) (nc cc : Nat) (cuts : List Int) (w : World) (h : WD w q p X S F) (hI : S.Inv N) (hN : N ≤ 2199023254000)
    (hr : Reads w w.heap.size 1 pr nd (dirs.map boolV)) (hc : Reads w w.heap.size 1 pc nc (cuts.map intV)) (hrs : ∀ ad, pr = some ad → ad.spot = none) (hcs : ∀ ad, pc = some ad → ad.spot = none) (hnd : nd ≤ 140737488351232) (hnc : nc ≤ 140737488351232) :
    Calls Try.prog 43 #[.pointer (some ⟨p, 0, none⟩), .agg #[.slice pr nd cr, .slice pc nc cc]] w fun e w' =>
      e = .returned (.int .i64 0) ∧ WD w' q p X (S.crash dirs cuts) (grow F w w') ∧ Touch F w w' := by
  obtain ⟨FW, FD, hA, hF⟩ := h
  refine (crash_any p S N FD pr nd cr dirs pc nc cc cuts w hA.dr hI hN hr hc hrs hcs hnd hnc).mono ?_
  rintro e w' ⟨he, hd, ht⟩
  refine ⟨he, ⟨_, _, hA.drive hd ht, fun k hk => ?_⟩, ht.mono fun k _ hk => hF k (.inr hk)⟩
  rcases hk with hk | hk | hk
  · exact .inl (hF k (.inl hk))
  · exact .inl (hF k (.inr hk))
  · exact .inr hk
theorem Wnd.Fused.rested {X : Wnd} {c ins : Int} {j N : Nat} (h : X.Fused c ins j N) : (X.rest true).lit = false ∧ (X.rest true).down = true ∧ ({ X.rest true with down := !true } : Wnd).Sound ∧ ({ X.rest true with down := !true } : Wnd).calls = X.calls ∧ ({ X.rest true with down := !true } : Wnd).round = 0 := by
  have hf : (X.rest true).fuse = none := by unfold Wnd.rest; rw [h.fuse]; rfl
  refine ⟨by unfold Wnd.lit; rw [hf], by unfold Wnd.rest; simp, ⟨rfl, h.away, h.plan, hf⟩, rfl, rfl⟩
theorem crash_room (S : Drv) (dirs : List Bool) (cuts : List Int) : (S.crash dirs cuts).room = S.room := rfl
end Go.Proofs.Ytdmcjomcbhdcbaa
