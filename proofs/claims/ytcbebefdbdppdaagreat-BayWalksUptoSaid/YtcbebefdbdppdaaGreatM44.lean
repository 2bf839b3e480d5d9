/- The document's gate: its methods, the blow, what it asks, and the gate of a wound.; The document's disk in memory: a drive and its gate in one struct; a wound and a disk side by side.; The gate is armed. -/
import Derived.Test.YtcbebefdbdppdaaGreatM23
import Derived.IntWalk
import Derived.RegionTactic
import Derived.ChangeAlike
import Derived.Deep.RegionHeld3
import Derived.Test.YtcbebefdbdppdaaGreatM43
import Derived.Test.YtcbebefdbdppdaaGreatM24
import Derived.Test.YtcbebefdbdppdaaGreatM12
namespace Go.Proofs.YtcbebefdbdppdaaGreat
open Go.RowKit Go.Maps
structure GCells where
  d : Bool
  a : Bool
  pa : Option Addr
  pn : Nat
  pc : Nat
  k : Int
  r : Int
  laid : Bool
  R : Int
  C : Int
  I : Int
def gcells (g : GCells) : Array Value := #[.bool g.d, .bool g.a, .slice g.pa g.pn g.pc, .int .i64 g.k, .int .i64 g.r, .bool g.laid, .int .i64 g.R, .int .i64 g.C, .int .i64 g.I]
def GCells.struck (g : GCells) : Bool := g.laid && g.R == 0
theorem goffline_any (g : GCells) (off : Bool) (w : World) :
    Calls Tryz.prog 95 #[.agg (gcells g), .bool off] w fun e w' => e = .returned (.agg (gcells { g with a := off })) ∧ Below w.heap.size w w' := by
  unfold gcells
  obtain ⟨d, a, pa, pn, pc, k, r, laid, R, C, I⟩ := g
  go_enter Tryz.func95, Tryz.ntmps95
  go_wp2
  refine bodyPost_ret (v := .agg #[.bool d, .bool off, .slice pa pn pc, .int .i64 k, .int .i64 r, .bool laid, .int .i64 R, .int .i64 C, .int .i64 I]) (by simp only [results, Tryz.results95]; go_simp) rfl ⟨rfl, ?_⟩
  exact ((Below.refl _ w).alloc (Nat.le_refl _) _).alloc (by simp) _
theorem gfuse_any (g : GCells) (x y z : Int) (w : World) :
    Calls Tryz.prog 96 #[.agg (gcells g), .int .i64 x, .int .i64 y, .int .i64 z] w fun e w' => e = .returned (.agg (gcells { g with laid := decide (0 ≤ x), R := x, C := y, I := z })) ∧ Below w.heap.size w w' := by
  unfold gcells
  obtain ⟨d, a, pa, pn, pc, k, r, laid, R, C, I⟩ := g
  go_enter Tryz.func96, Tryz.ntmps96
  go_wp2
  refine bodyPost_ret (v := .agg #[.bool d, .bool a, .slice pa pn pc, .int .i64 k, .int .i64 r, .bool (decide (0 ≤ x)), .int .i64 x, .int .i64 y, .int .i64 z]) (by simp only [results, Tryz.results96]; go_simp) rfl ⟨rfl, ?_⟩
  exact ((Below.refl _ w).alloc (Nat.le_refl _) _).alloc (by simp) _
def GCells.rest (g : GCells) (off : Bool) : GCells :=
  { g with r := 0, laid := (g.laid && !(g.R == 0)), R := (if g.laid = true ∧ g.R ≠ 0 then g.R - 1 else g.R), d := g.d || off }
def gkind (k : Int) : Int := if k = 1 then 1 else if k = 2 then 2 else 3
def gmay (k : Int) : Bool := k == 1 || k == 2
def GCells.hits (g : GCells) : Bool := g.laid && g.R == 0 && g.C == g.r
def GCells.count (g : GCells) : GCells := { g with k := g.k + 1, r := g.r + 1 }
def ansV (goes : Bool) (bytes err : Int) : Value := .agg #[.bool goes, .int .i64 bytes, .int .i64 err]
theorem three {w w1 : World} {a b c : Array Value} {t s u : TypeId} (h : Below (((w.alloc (.cells a t)).alloc (.cells b s)).alloc (.cells c u)).heap.size (((w.alloc (.cells a t)).alloc (.cells b s)).alloc (.cells c u)) w1) :
    Blk w1 w.heap.size t a ∧ Blk w1 (w.heap.size + 1) s b ∧ Blk w1 (w.heap.size + 1 + 1) u c ∧ w.heap.size + 1 + 1 < w1.heap.size ∧ Below w.heap.size w w1 := by
  have hs := h.size
  simp only [alloc_size] at hs
  refine ⟨Blk.below (((Blk.new _ _ _).alloc _).alloc _) h (by simp; omega), Blk.below ((blk_last _ _ _ _ (by simp)).alloc _) h (by simp), Blk.below (blk_last _ _ _ _ (by simp)) h (by simp), by omega, ?_⟩
  exact ((((Below.refl _ w).alloc (Nat.le_refl _) _).alloc (by simp) _).alloc (by simp; omega) _).trans (h.mono (by simp; omega))
structure GateOf (X : Wnd) (g : GCells) : Prop where
  d : g.d = X.down
  a : g.a = X.away
  pn : g.pn = X.plan.length
  k : g.k = X.calls
  r : g.r = X.round
  some_ : ∀ f, X.fuse = some f → g.laid = true ∧ g.R = f.round ∧ g.C = f.call ∧ g.I = f.inside
  none_ : X.fuse = none → g.laid = false
theorem GateOf.new : GateOf Wnd.new ⟨false, false, none, 0, 0, 0, 0, false, 0, 0, 0⟩ := ⟨rfl, rfl, rfl, rfl, rfl, (fun f h => by cases h), fun _ => rfl⟩
theorem GateOf.struck {X : Wnd} {g : GCells} (h : GateOf X g) : g.struck = X.lit := by
  unfold GCells.struck Wnd.lit
  cases hf : X.fuse with
  | none => rw [h.none_ hf]; rfl
  | some f => obtain ⟨h1, h2, _⟩ := h.some_ f hf; rw [h1, h2]; rfl
theorem GateOf.hits {X : Wnd} {g : GCells} (h : GateOf X g) : g.hits = X.hits := by
  unfold GCells.hits Wnd.hits
  cases hf : X.fuse with
  | none => rw [h.none_ hf]; rfl
  | some f => obtain ⟨h1, h2, h3, _⟩ := h.some_ f hf; rw [h1, h2, h3, h.r]; simp
theorem GateOf.inside {X : Wnd} {g : GCells} (h : GateOf X g) (hh : X.hits = true) : X.inside = max 0 g.I := by
  unfold Wnd.hits at hh
  unfold Wnd.inside
  cases hf : X.fuse with
  | none => rw [hf] at hh; cases hh
  | some f => obtain ⟨_, _, _, h4⟩ := h.some_ f hf; rw [h4]
theorem GateOf.offline {X : Wnd} {g : GCells} (h : GateOf X g) (off : Bool) : GateOf { X with away := off } { g with a := off } := ⟨h.d, rfl, h.pn, h.k, h.r, h.some_, h.none_⟩
theorem GateOf.power {X : Wnd} {g : GCells} (h : GateOf X g) (on : Bool) : GateOf { X with down := !on } { g with d := !on } := ⟨rfl, h.a, h.pn, h.k, h.r, h.some_, h.none_⟩
theorem GateOf.count {X : Wnd} {g : GCells} (h : GateOf X g) : GateOf X.count g.count := ⟨h.d, h.a, h.pn, by show g.k + 1 = _; rw [h.k]; rfl, by show g.r + 1 = _; rw [h.r]; rfl, h.some_, h.none_⟩
theorem GateOf.cut {X : Wnd} {g : GCells} (h : GateOf X g) : GateOf { X.count with down := true } { g.count with d := true } := ⟨rfl, h.a, h.pn, h.count.k, h.count.r, h.some_, h.none_⟩
theorem GateOf.fuse {X : Wnd} {g : GCells} (h : GateOf X g) (x y z : Int) : GateOf (X.setFuse x y z) { g with laid := decide (0 ≤ x), R := x, C := y, I := z } where
  d := h.d
  a := h.a
  pn := h.pn
  k := h.k
  r := h.r
  some_ f hf := by
    unfold Wnd.setFuse at hf
    simp only at hf
    split at hf
    · rename_i h0
      injection hf with hf
      subst hf
      exact ⟨by simpa using h0, rfl, rfl, rfl⟩
    · cases hf
  none_ hf := by
    unfold Wnd.setFuse at hf
    simp only at hf
    split at hf
    · cases hf
    · rename_i h0
      simpa using h0
theorem GateOf.rest {X : Wnd} {g : GCells} (h : GateOf X g) (off : Bool) : GateOf (X.rest off) (g.rest off) where
  d := by unfold GCells.rest Wnd.rest; simp only; rw [h.d]
  a := h.a
  pn := h.pn
  k := h.k
  r := rfl
  some_ f hf := by
    unfold Wnd.rest at hf
    simp only at hf
    split at hf
    · rename_i f0 hf0
      obtain ⟨h1, h2, h3, h4⟩ := h.some_ f0 hf0
      split at hf
      · cases hf
      · rename_i hne
        injection hf with hf
        subst hf
        unfold GCells.rest
        simp only
        rw [h1, h2]
        refine ⟨by simp [hne], by rw [if_pos ⟨rfl, hne⟩], h3, h4⟩
    · cases hf
  none_ hf := by
    unfold Wnd.rest at hf
    simp only at hf
    unfold GCells.rest
    simp only
    split at hf
    · rename_i f0 hf0
      obtain ⟨h1, h2, h3, h4⟩ := h.some_ f0 hf0
      split at hf
      · rename_i h0
        rw [h2, h0]; simp
      · cases hf
    · rename_i hf0
      rw [h.none_ hf0]; rfl
theorem GateOf.arm {X : Wnd} {g : GCells} (h : GateOf X g) (plan : List (Int × Int)) (pa : Option Addr) (pc : Nat) : GateOf (X.arm plan) { g with pa := pa, pn := plan.length, pc := pc, k := 0 } := ⟨h.d, h.a, rfl, rfl, h.r, h.some_, h.none_⟩
theorem GateOf.round {X : Wnd} {g : GCells} (h : GateOf X g) (hX : X.Ok) : g.laid = true → 0 ≤ g.R ∧ g.R ≤ 9223372036854775807 := fun hl => by
  cases hf : X.fuse with
  | none => rw [h.none_ hf] at hl; cases hl
  | some f => obtain ⟨_, h2, _, _⟩ := h.some_ f hf; rw [h2]; exact hX.fuse f hf
end Go.Proofs.YtcbebefdbdppdaaGreat
namespace Go.Proofs.YtcbebefdbdppdaaGreat
open Go.RowKit Go.Maps
def dcells (dv : Value) (g : GCells) : Array Value := #[dv, .bool g.d, .bool g.a, .slice g.pa g.pn g.pc, .int .i64 g.k, .int .i64 g.r, .bool g.laid, .int .i64 g.R, .int .i64 g.C, .int .i64 g.I]
structure GtAt (w : World) (q : Nat) (dv : Value) (X : Wnd) (g : GCells) : Prop where
  head : Blk w q 189 (dcells dv g)
  of : GateOf X g
  plan : w.ownsRow 0 214 2 (.slice g.pa g.pn g.pc) g.pn (planCells X.plan)
def Gt (w : World) (q : Nat) (dv : Value) (X : Wnd) (F : Nat → Prop) : Prop := ∃ g, GtAt w q dv X g ∧ F q ∧ ∀ k, (Value.slice g.pa g.pn g.pc).ownBlock = some k → F k
section
variable {w w' : World} {q : Nat} {dv : Value} {X : Wnd} {F G : Nat → Prop}
theorem Gt.keep (h : Gt w q dv X F) (ht : Touch G w w') (hd : ∀ k, F k → ¬G k) : Gt w' q dv X F := by
  obtain ⟨g, h, hq, hF⟩ := h
  exact ⟨g, ⟨(ht.block q h.head.lt (hd q hq)).trans h.head, h.of, ownsRow_keep h.plan fun k e => ht.block k (h.plan.lt k e).2 (hd k (hF k e))⟩, hq, hF⟩
theorem Gt.mono (h : Gt w q dv X F) (hFG : ∀ k, F k → G k) : Gt w q dv X G := by
  obtain ⟨g, h, hq, hF⟩ := h; exact ⟨g, h, hFG q hq, fun k e => hFG k (hF k e)⟩
theorem Gt.lt (h : Gt w q dv X F) : Gt w q dv X fun k => F k ∧ k < w.heap.size := by
  obtain ⟨g, h, hq, hF⟩ := h; exact ⟨g, h, ⟨hq, h.head.lt⟩, fun k e => ⟨hF k e, (h.plan.lt k e).2⟩⟩
end
structure DKp (w : World) (q p : Nat) (X : Wnd) (S : Drv) (FG FM : Nat → Prop) : Prop where
  gt : Gt w q (.pointer (some ⟨p, 0, none⟩)) X FG
  md : Md w p S FM
  glt : ∀ k, FG k → k < w.heap.size
  mlt : ∀ k, FM k → k < w.heap.size
  no : ∀ k, FG k → ¬FM k
def DK (w : World) (q p : Nat) (X : Wnd) (S : Drv) (F : Nat → Prop) : Prop := ∃ FG FM, DKp w q p X S FG FM ∧ ∀ k, FG k ∨ FM k → F k
section
variable {w w1 : World} {q p : Nat} {X Y : Wnd} {S T : Drv} {F G FG FM : Nat → Prop}
theorem DK.mono (h : DK w q p X S F) (hFG : ∀ k, F k → G k) : DK w q p X S G := by
  obtain ⟨FG, FM, h, hf⟩ := h; exact ⟨FG, FM, h, fun k hk => hFG k (hf k hk)⟩
theorem DK.keep (h : DK w q p X S F) (ht : Touch G w w1) (hd : ∀ k, F k → ¬G k) : DK w1 q p X S F := by
  obtain ⟨FG, FM, h, hf⟩ := h
  exact ⟨FG, FM, ⟨h.gt.keep ht fun k hk => hd k (hf k (.inl hk)), h.md.keep ht fun k hk => hd k (hf k (.inr hk)), fun k hk => Nat.lt_of_lt_of_le (h.glt k hk) ht.size, fun k hk => Nat.lt_of_lt_of_le (h.mlt k hk) ht.size, h.no⟩, hf⟩
theorem DK.below (h : DK w q p X S F) (hb : Below w.heap.size w w1) : DK w1 q p X S F := h.keep (Touch.of_below (F := fun _ => False) hb) fun _ _ h => h
theorem DK.lt (h : DK w q p X S F) : DK w q p X S fun k => F k ∧ k < w.heap.size := by
  obtain ⟨FG, FM, h, hf⟩ := h
  refine ⟨FG, FM, h, fun k hk => ⟨hf k hk, ?_⟩⟩
  rcases hk with hk | hk
  · exact h.glt k hk
  · exact h.mlt k hk
theorem DKp.drive (h : DKp w q p X S FG FM) (hF : ∀ k, FG k ∨ FM k → F k) (hm : Md w1 p T (grow FM w w1)) (ht : Touch FM w w1) : DK w1 q p X T (grow F w w1) ∧ Touch F w w1 := by
  refine ⟨⟨FG, grow FM w w1, ⟨h.gt.keep ht fun k hk hd => h.no k hk hd, hm, fun k hk => Nat.lt_of_lt_of_le (h.glt k hk) ht.size, fun k hk => ?_, fun k hk hd => ?_⟩, fun k hk => ?_⟩, ht.mono fun k _ hk => hF k (.inr hk)⟩
  · rcases hk with hk | hk
    · exact Nat.lt_of_lt_of_le (h.mlt k hk) ht.size
    · exact hk.2
  · rcases hd with hd | hd
    · exact h.no k hk hd
    · have := h.glt k hk; omega
  · rcases hk with hk | hk | hk
    · exact .inl (hF k (.inl hk))
    · exact .inl (hF k (.inr hk))
    · exact .inr hk
theorem DKp.gate (h : DKp w q p X S FG FM) (hF : ∀ k, FG k ∨ FM k → F k) (hg : Gt w1 q (.pointer (some ⟨p, 0, none⟩)) Y (grow FG w w1)) (ht : Touch FG w w1) : DK w1 q p Y S (grow F w w1) ∧ Touch F w w1 := by
  refine ⟨⟨grow FG w w1, FM, ⟨hg, h.md.keep ht fun k hk hd => h.no k hd hk, fun k hk => ?_, fun k hk => Nat.lt_of_lt_of_le (h.mlt k hk) ht.size, fun k hk hd => ?_⟩, fun k hk => ?_⟩, ht.mono fun k _ hk => hF k (.inl hk)⟩
  · rcases hk with hk | hk
    · exact Nat.lt_of_lt_of_le (h.glt k hk) ht.size
    · exact hk.2
  · rcases hk with hk | hk
    · exact h.no k hk hd
    · have := h.mlt k hd; omega
  · rcases hk with (hk | hk) | hk
    · exact .inl (hF k (.inl hk))
    · exact .inr hk
    · exact .inl (hF k (.inr hk))
end
def Twin (w : World) (h q p mq mp : Nat) (X : Wnd) (S : Drv) (Y : Wnd) (T : Drv) : Prop :=
  ∃ F1 F2 : Nat → Prop, WD w q p X S F1 ∧ DK w mq mp Y T F2 ∧ (∀ k, F1 k → h ≤ k ∧ k < w.heap.size) ∧ (∀ k, F2 k → h ≤ k ∧ k < w.heap.size) ∧ ∀ k, F1 k → ¬F2 k
section
variable {w w1 : World} {h q p mq mp : Nat} {X X' Y Y' : Wnd} {S S' T T' : Drv}
theorem Twin.wound {F1 F2 : Nat → Prop} (hh : h ≤ w.heap.size) (hd : DK w mq mp Y T F2) (h1 : ∀ k, F1 k → h ≤ k ∧ k < w.heap.size) (h2 : ∀ k, F2 k → h ≤ k ∧ k < w.heap.size) (hno : ∀ k, F1 k → ¬F2 k)
    (hw : WD w1 q p X' S' (grow F1 w w1)) (ht : Touch F1 w w1) : Twin w1 h q p mq mp X' S' Y T ∧ Below h w w1 := by
  have hs := ht.size
  refine ⟨⟨grow F1 w w1, F2, hw, hd.keep ht fun k hk hf => hno k hf hk, fun k hk => ?_, fun k hk => ?_, fun k hk hf => ?_⟩, ht.below hh fun k hk => (h1 k hk).1⟩
  · rcases hk with hk | hk
    · have := h1 k hk; omega
    · omega
  · have := h2 k hk; omega
  · rcases hk with hk | hk
    · exact hno k hk hf
    · have := h2 k hf; omega
theorem Twin.disk {F1 F2 : Nat → Prop} (hh : h ≤ w.heap.size) (hd : WD w q p X S F1) (h1 : ∀ k, F1 k → h ≤ k ∧ k < w.heap.size) (h2 : ∀ k, F2 k → h ≤ k ∧ k < w.heap.size) (hno : ∀ k, F1 k → ¬F2 k)
    (hw : DK w1 mq mp Y' T' (grow F2 w w1)) (ht : Touch F2 w w1) : Twin w1 h q p mq mp X S Y' T' ∧ Below h w w1 := by
  have hs := ht.size
  refine ⟨⟨F1, grow F2 w w1, hd.keep ht hno, hw, fun k hk => ?_, fun k hk => ?_, fun k hk hf => ?_⟩, ht.below hh fun k hk => (h2 k hk).1⟩
  · have := h1 k hk; omega
  · rcases hk with hk | hk
    · have := h2 k hk; omega
    · omega
  · rcases hf with hf | hf
    · exact hno k hk hf
    · have := h1 k hk; omega
theorem Twin.below (hT : Twin w h q p mq mp X S Y T) (hb : Below w.heap.size w w1) : Twin w1 h q p mq mp X S Y T := by
  obtain ⟨F1, F2, a, b, h1, h2, hno⟩ := hT
  have hs := hb.size
  exact ⟨F1, F2, WD.below a hb, b.below hb, fun k hk => by have := h1 k hk; omega, fun k hk => by have := h2 k hk; omega, hno⟩
theorem Twin.on_wound {f : Nat} {ar : Array Value} {Q : Ending → World → Prop} (hT : Twin w h q p mq mp X S Y T) (hh : h ≤ w.heap.size)
    (hc : ∀ F, WD w q p X S F → Calls Tryz.prog f ar w fun e w' => ∃ X' S', WD w' q p X' S' (grow F w w') ∧ Touch F w w' ∧ (Twin w' h q p mq mp X' S' Y T → Below h w w' → Q e w')) : Calls Tryz.prog f ar w Q := by
  obtain ⟨F1, F2, a, b, h1, h2, hno⟩ := hT
  refine (hc F1 a).mono ?_
  rintro e w' ⟨X', S', hw, ht, hq⟩
  obtain ⟨k1, k2⟩ := Twin.wound hh b h1 h2 hno hw ht
  exact hq k1 k2
end
theorem mdnew_nil (w : World) : Calls Tryz.prog 73 #[.pointer none] w fun e w' => e = .returned (.pointer none) ∧ w = w' := by
  go_enter Tryz.func73, Tryz.ntmps73
  go_wp2
  go_ret
  exact ⟨rfl, rfl⟩
def g0 : GCells := ⟨false, false, none, 0, 0, 0, 0, false, 0, 0, 0⟩
theorem mdnew_any (p : Nat) (w : World) : Calls Tryz.prog 73 #[.pointer (some ⟨p, 0, none⟩)] w fun e w' =>
    e = .returned (.pointer (some ⟨w.heap.size, 0, none⟩)) ∧ GtAt w' w.heap.size (.pointer (some ⟨p, 0, none⟩)) Wnd.new g0 ∧ Below w.heap.size w w' ∧ w'.heap.size = w.heap.size + 1 := by
  go_enter Tryz.func73, Tryz.ntmps73
  go_wp2
  go_ret
  exact ⟨rfl, ⟨Blk.new _ _ _, GateOf.new, World.ownsRow_nil _ _ _ _⟩, (Below.refl _ w).alloc (Nat.le_refl _) _, by simp⟩
end Go.Proofs.YtcbebefdbdppdaaGreat
namespace Go.Proofs.YtcbebefdbdppdaaGreat
open Go.RowKit Go.Maps
def zeroGate : Array Value := #[.bool false, .bool false, .slice none 0 0, .int .i64 0, .int .i64 0, .bool false, .int .i64 0, .int .i64 0, .int .i64 0]
theorem Reads.far {w w' : World} {B size n : Nat} {A : Option Addr} {xs : List Value} (h : Reads w B size A n xs) (hk : ∀ k, k < B → w'.heap[k]? = w.heap[k]?) : Reads w' B size A n xs :=
  h.keep fun p hp => World.cell?_of_block (hk p.block hp)
set_option maxHeartbeats 1000000 in
theorem garm_any (g : GCells) (A : Option Addr) (n c : Nat) (l : List (Int × Int)) (w : World) (B : Nat) (hr : Reads w B 2 A n (planCells l)) (hn : n * 16 ≤ 140737488351232) (hB : B ≤ w.heap.size) :
    Calls Tryz.prog 94 #[.agg (gcells g), .slice A n c] w fun e w' => ∃ pa pc, e = .returned (.agg (gcells { g with pa := pa, pn := n, pc := pc, k := 0 })) ∧ w'.ownsRow w.heap.size 214 2 (.slice pa n pc) n (planCells l) ∧ Below w.heap.size w w' := by
  obtain ⟨W, hW⟩ : ∃ W, W = (w.alloc (.cells (gcells g) 187)).alloc (.cells zeroGate 187) := ⟨_, rfl⟩
  have hWB : Below w.heap.size w W := by rw [hW]; exact ((Below.refl _ w).alloc (Nat.le_refl _) _).alloc (by simp) _
  have HWB := Lib.hid hWB
  have HG : Hid (Blk W w.heap.size 187 (gcells g)) := Lib.hid (by rw [hW]; exact (Blk.new _ _ _).alloc _)
  have HQ : Hid (Blk W (w.heap.size + 1) 187 zeroGate) := Lib.hid (by rw [hW]; exact blk_last _ _ _ _ (by simp))
  have HRD := Lib.hid ((hr.far fun k hk => hWB.block k (Nat.lt_of_lt_of_le hk hB)) : Reads W B 2 A n (planCells l))
  have HONE : Hid (∀ u ∈ planCells l, u.oneCell' = true) := Lib.hid (by
    intro u hu
    unfold planCells at hu
    simp only [List.mem_flatMap] at hu
    obtain ⟨f, _, hf⟩ := hu
    simp at hf
    rcases hf with rfl | rfl <;> rfl)
  have hws : W.heap.size = w.heap.size + 2 := by rw [hW]; simp
  have HWS := Lib.hid hws
  unfold gcells zeroGate at hW
  have HW := Lib.hid hW
  have hm63 : 0 + n ≤ maxLen := by simp only [maxLen]; omega
  have HM63 := Lib.hid hm63
  have hm40 : (0 + n) * 16 ≤ 140737488355328 := by omega
  have HM40 := Lib.hid hm40
  clear hr hm63 hm40 hW hWB hws
  obtain ⟨i5, hi5, hz0, hz1, hz2⟩ := info_parts faultInfo
  unfold gcells
  go_enter Tryz.func94, Tryz.ntmps94
  go_wp2_with (at_builtin; (rw [← HW.out]; refine wpList_append_any _ rfl _ _ 52 rfl W.heap.size 214 i5 _ 2 16 Tryz.underlying52 hi5 hz0 hz1 hz2 rfl (by omega) (.slice none 0 0) 0 [] rfl (World.ownsRow_nil _ _ _ _) B A n c (planCells l) rfl HRD.out HONE.out HM63.out HM40.out (Nat.le_refl _) ?_); intro v1 w1 hown1 hg1 hat1; obtain ⟨a1, c1, hv1, _⟩ := own_shape hown1; subst hv1; rw [Nat.zero_add] at hown1 ⊢; have HB1 : Hid (Below W.heap.size W w1) := Lib.hid ((Below.refl _ _).grown hg1 (Nat.le_refl _) (fun k hk => by simp [Value.ownBlock] at hk)); have HOWN := Lib.hid hown1; have k1 := HG.out.below HB1.out HG.out.lt; have k2 := HQ.out.below HB1.out HQ.out.lt; have g0 : w1.cell? ⟨w.heap.size, 0, none⟩ = some (.bool g.d) := k1.cell 0; have g1 : w1.cell? ⟨w.heap.size, 1, none⟩ = some (.bool g.a) := k1.cell 1; have g2 : w1.cell? ⟨w.heap.size, 2, none⟩ = some (.slice g.pa g.pn g.pc) := k1.cell 2; have g3 : w1.cell? ⟨w.heap.size, 3, none⟩ = some (.int .i64 g.k) := k1.cell 3; have g4 : w1.cell? ⟨w.heap.size, 4, none⟩ = some (.int .i64 g.r) := k1.cell 4; have g5 : w1.cell? ⟨w.heap.size, 5, none⟩ = some (.bool g.laid) := k1.cell 5; have g6 : w1.cell? ⟨w.heap.size, 6, none⟩ = some (.int .i64 g.R) := k1.cell 6; have g7 : w1.cell? ⟨w.heap.size, 7, none⟩ = some (.int .i64 g.C) := k1.cell 7; have g8 : w1.cell? ⟨w.heap.size, 8, none⟩ = some (.int .i64 g.I) := k1.cell 8; have gf : ∀ i, w1.frozen? ⟨w.heap.size, i, none⟩ = false := k1.frozen; have q0 : w1.cell? ⟨w.heap.size + 1, 0, none⟩ = some (.bool false) := k2.cell 0; have q1 : w1.cell? ⟨w.heap.size + 1, 1, none⟩ = some (.bool false) := k2.cell 1; have q2 : w1.cell? ⟨w.heap.size + 1, 2, none⟩ = some (.slice none 0 0) := k2.cell 2; have q3 : w1.cell? ⟨w.heap.size + 1, 3, none⟩ = some (.int .i64 0) := k2.cell 3; have q4 : w1.cell? ⟨w.heap.size + 1, 4, none⟩ = some (.int .i64 0) := k2.cell 4; have q5 : w1.cell? ⟨w.heap.size + 1, 5, none⟩ = some (.bool false) := k2.cell 5; have q6 : w1.cell? ⟨w.heap.size + 1, 6, none⟩ = some (.int .i64 0) := k2.cell 6; have q7 : w1.cell? ⟨w.heap.size + 1, 7, none⟩ = some (.int .i64 0) := k2.cell 7; have q8 : w1.cell? ⟨w.heap.size + 1, 8, none⟩ = some (.int .i64 0) := k2.cell 8; have qf : ∀ i, w1.frozen? ⟨w.heap.size + 1, i, none⟩ = false := k2.frozen; have hl1 : w.heap.size + 1 < w1.heap.size := k2.lt; have hl0 : w.heap.size < w1.heap.size := k1.lt; clear hown1 hg1 hat1 k1 k2)
  refine bodyPost_ret (v := .agg #[.bool g.d, .bool g.a, .slice a1 n c1, .int .i64 0, .int .i64 g.r, .bool g.laid, .int .i64 g.R, .int .i64 g.C, .int .i64 g.I]) (by simp only [results, Tryz.results94]; go_simp) rfl ?_
  refine ⟨a1, c1, rfl, ?_, ?_⟩
  · have hws := HWS.out
    refine ownsRow_base_a (row_touch (G := fun k => k = w.heap.size ∨ k = w.heap.size + 1) HOWN.out ?_ (fun k hk => by omega)) HWB.out.size
    iterate 11 (with_reducible refine Touch.set ?_ (by simp) _)
    exact Touch.refl _ _
  · repeat (first | with_reducible exact HWB.out.trans (HB1.out.mono HWB.out.size) | with_reducible refine Below.setCell ?_ (by simp) _)
end Go.Proofs.YtcbebefdbdppdaaGreat
