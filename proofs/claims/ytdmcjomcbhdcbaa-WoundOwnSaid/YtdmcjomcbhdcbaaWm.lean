/- The plain model of a wound, beside its drive. -/
import Derived.Test.YtdmcjomcbhdcbaaDl
namespace Go.Proofs.Ytdmcjomcbhdcbaa
open Go.RowKit Go.Maps

structure Fz where
  round : Int
  call : Int
  inside : Int

structure Wnd where
  down : Bool
  away : Bool
  plan : List (Int × Int)
  calls : Int
  round : Int
  fuse : Option Fz

namespace Wnd
def new : Wnd := ⟨false, false, [], 0, 0, none⟩
def lit (X : Wnd) : Bool :=
  match X.fuse with
  | some f => f.round == 0
  | none => false
/-- What the first fault of that number says. -/
def scan (may : Bool) (number : Int) : List (Int × Int) → Int
  | [] => 0
  | f :: r => if f.1 = number then (if f.2 = 1 then 120 else if f.2 = 2 ∧ may = true then 111 else 0) else scan may number r
def hits (X : Wnd) : Bool :=
  match X.fuse with
  | some f => f.round == 0 && f.call == X.round
  | none => false
def inside (X : Wnd) : Int :=
  match X.fuse with
  | some f => max 0 f.inside
  | none => 0
def count (X : Wnd) : Wnd := { X with calls := X.calls + 1, round := X.round + 1 }
def struck (X : Wnd) (may : Bool) : Wnd × Int × Int :=
  if X.down = true then (X, 122, -1) else
  if X.away = true then (X, 121, -1) else
  if X.hits = true then ({ X.count with down := true }, 122, X.inside) else
  (X.count, scan may X.calls X.plan, -1)
def rest (X : Wnd) (off : Bool) : Wnd :=
  { X with
    fuse := (match X.fuse with
      | some f => if f.round = 0 then none else some { f with round := f.round - 1 }
      | none => none)
    round := 0, down := X.down || off }
def setFuse (X : Wnd) (r c i : Int) : Wnd := { X with fuse := if 0 ≤ r then some ⟨r, c, i⟩ else none }
def arm (X : Wnd) (plan : List (Int × Int)) : Wnd := { X with plan := plan, calls := 0 }
/-- Nothing wraps. -/
structure Ok (X : Wnd) : Prop where
  calls : 0 ≤ X.calls ∧ X.calls ≤ 1152921504606846976
  round : 0 ≤ X.round ∧ X.round ≤ 1152921504606846976
  plan : X.plan.length ≤ 8796093021952
  fuse : ∀ f, X.fuse = some f → 0 ≤ f.round ∧ f.round ≤ 9223372036854775807
end Wnd

def planCells (l : List (Int × Int)) : List Value := l.flatMap fun f => [.int .i64 f.1, .int .i64 f.2]
def fuseV (fq : Option Nat) : Value := .pointer (fq.map fun b => ⟨b, 0, none⟩)

structure WndAt (w : World) (q : Nat) (dv : Value) (X : Wnd) (pv : Value) (fq : Option Nat) : Prop where
  head : Blk w q 57 #[dv, .bool X.down, .bool X.away, pv, .int .i64 X.calls, .int .i64 X.round, fuseV fq]
  plan : w.ownsRow 0 46 2 pv X.plan.length (planCells X.plan)
  none_ : fq = none → X.fuse = none
  some_ : ∀ b, fq = some b → ∃ f, X.fuse = some f ∧ Blk w b 96 #[.int .i64 f.round, .int .i64 f.call, .int .i64 f.inside]

def wfoot (q : Nat) (pv : Value) (fq : Option Nat) (k : Nat) : Prop := k = q ∨ pv.ownBlock = some k ∨ fq = some k
/-- A wound at q, on the drive that 'dv' leads to, within the blocks F. -/
def Wn (w : World) (q : Nat) (dv : Value) (X : Wnd) (F : Nat → Prop) : Prop := ∃ pv fq, WndAt w q dv X pv fq ∧ ∀ k, wfoot q pv fq k → F k

section
variable {w w' : World} {q : Nat} {dv : Value} {X : Wnd} {pv : Value} {fq : Option Nat} {F G : Nat → Prop}
theorem WndAt.keep (h : WndAt w q dv X pv fq) (hk : ∀ k, wfoot q pv fq k → w'.heap[k]? = w.heap[k]?) : WndAt w' q dv X pv fq where
  head := (hk q (.inl rfl)).trans h.head
  plan := ownsRow_keep h.plan fun k e => hk k (.inr (.inl e))
  none_ := h.none_
  some_ := fun b e => by
    obtain ⟨f, e1, hb⟩ := h.some_ b e
    exact ⟨f, e1, (hk b (.inr (.inr e))).trans hb⟩
theorem WndAt.foot_lt (h : WndAt w q dv X pv fq) {k : Nat} (hk : wfoot q pv fq k) : k < w.heap.size := by
  rcases hk with rfl | e | e
  · exact h.head.lt
  · exact (h.plan.lt k e).2
  · obtain ⟨f, _, hb⟩ := h.some_ k e
    exact hb.lt
theorem Wn.keep (h : Wn w q dv X F) (ht : Touch G w w') (hd : ∀ k, F k → ¬G k) : Wn w' q dv X F := by
  obtain ⟨pv, fq, h, hf⟩ := h
  exact ⟨pv, fq, h.keep fun k hk => ht.block k (h.foot_lt hk) (hd k (hf k hk)), hf⟩
theorem Wn.mono (h : Wn w q dv X F) (hFG : ∀ k, F k → G k) : Wn w q dv X G := by
  obtain ⟨pv, fq, h, hf⟩ := h
  exact ⟨pv, fq, h, fun k hk => hFG k (hf k hk)⟩
end

/-- Struck. -/
theorem lit_any (q : Nat) (dv : Value) (X : Wnd) (pv : Value) (fq : Option Nat) (w : World) (h : WndAt w q dv X pv fq) :
    Calls Try.prog 28 #[.pointer (some ⟨q, 0, none⟩)] w fun e w' => e = .returned (.bool X.lit) ∧ w = w' := by
  have h6 : w.cell? ⟨q, 6, none⟩ = some (fuseV fq) := h.head.cell 6
  cases fq with
  | none =>
    have hX : X.lit = false := by unfold Wnd.lit; rw [h.none_ rfl]
    rw [hX]
    simp only [fuseV, Option.map] at h6
    clear h hX
    go_enter Try.func28, Try.ntmps28
    go_wp2
    go_ret
    exact ⟨rfl, rfl⟩
  | some b =>
    obtain ⟨f, hf, hb⟩ := h.some_ b rfl
    have hX : X.lit = (f.round == 0) := by unfold Wnd.lit; rw [hf]
    rw [hX]
    simp only [fuseV, Option.map] at h6
    have hb0 : w.cell? ⟨b, 0, none⟩ = some (.int .i64 f.round) := hb.cell 0
    clear h hX hf hb
    go_enter Try.func28, Try.ntmps28
    go_wp2
    go_ret
    exact ⟨rfl, rfl⟩
theorem lit_nil (w : World) : Calls Try.prog 28 #[.pointer none] w fun e w' => e = .returned (.bool false) ∧ w = w' := by
  go_enter Try.func28, Try.ntmps28
  go_wp2
  go_ret
  exact ⟨rfl, rfl⟩
end Go.Proofs.Ytdmcjomcbhdcbaa
