/- Lists of files as answers of a drive: their place in memory; names of a directory; Image.; Contracts of the drive: Safe.; The plain model of a wound, beside its drive. -/
import Derived.Test.YtcbebefdbdppdaaGreatM6
namespace Go.Proofs.YtcbebefdbdppdaaGreat
open Go.RowKit Go.Maps
def Full (D : Dir) : Prop := ∀ s, has D (key s) = true → s.length ≤ 1024 ∧ ∃ i, dget D s = some i
theorem alloc_size (w : World) (o : Obj) : (w.alloc o).heap.size = w.heap.size + 1 := by simp
theorem dnames_length (D : Dir) : (dnames D).length = size D := by
  rw [dnames, (List.mergeSort_perm _ _).length_eq]
  cases D <;> simp [strKeys, size]
abbrev File := Nm × List UInt8
def fileCells (fs : List File) (vals : List Value) : List Value := (fs.zip vals).flatMap fun x => [strV x.1.1, x.2]
def FilesAt (w : World) (base : Nat) (v : Value) (fs : List File) : Prop :=
  ∃ vals : List Value, vals.length = fs.length ∧ w.ownsRow base 171 2 v fs.length (fileCells fs vals) ∧ ∀ (k : Nat) (f : File) (u : Value), fs[k]? = some f → vals[k]? = some u → w.ownsRow base 5 1 u f.2.length (f.2.map B8)
theorem ownsRow_below {w w' : World} {base : Nat} {e : TypeId} {size n : Nat} {v : Value} {xs : List Value} (h : w.ownsRow base e size v n xs) (hb : Below w.heap.size w w') : w'.ownsRow base e size v n xs :=
  ownsRow_keep h fun k hk => hb.block k (h.lt k hk).2
theorem FilesAt.below {w w' : World} {base : Nat} {v : Value} {fs : List File} (h : FilesAt w base v fs) (hb : Below w.heap.size w w') : FilesAt w' base v fs := by
  obtain ⟨vals, hl, ho, hd⟩ := h
  exact ⟨vals, hl, ownsRow_below ho hb, fun k f u hf hu => ownsRow_below (hd k f u hf hu) hb⟩
theorem FilesAt.nil (w : World) (base : Nat) : FilesAt w base (.slice none 0 0) [] := ⟨[], rfl, World.ownsRow_nil _ _ _ _, fun k f u hf => by simp at hf⟩
theorem FilesAt.base {w : World} {base base' : Nat} {v : Value} {fs : List File} (h : FilesAt w base v fs) (hb : base' ≤ base) : FilesAt w base' v fs := by
  obtain ⟨vals, hl, ho, hd⟩ := h
  exact ⟨vals, hl, ownsRow_base_a ho hb, fun k f u hf hu => ownsRow_base_a (hd k f u hf hu) hb⟩
theorem fileCells_snoc (fs : List File) (vals : List Value) (f : File) (u : Value) (h : vals.length = fs.length) : fileCells (fs ++ [f]) (vals ++ [u]) = fileCells fs vals ++ [strV f.1, u] := by
  unfold fileCells
  rw [List.zip_append h.symm]; simp
theorem FilesAt.snoc {w1 : World} {base : Nat} {v1 : Value} {fs : List File} {f : File} {u : Value} {vals : List Value} (hl : vals.length = fs.length)
    (hd : ∀ (k : Nat) (f : File) (u : Value), fs[k]? = some f → vals[k]? = some u → w1.ownsRow base 5 1 u f.2.length (f.2.map B8))
    (ho : w1.ownsRow base 171 2 v1 (fs.length + 1) (fileCells fs vals ++ [strV f.1, u])) (hu : w1.ownsRow base 5 1 u f.2.length (f.2.map B8)) : FilesAt w1 base v1 (fs ++ [f]) := by
  refine ⟨vals ++ [u], by simp [hl], by rw [fileCells_snoc _ _ _ _ hl, List.length_append]; exact ho, fun k g t hg ht => ?_⟩
  rcases Nat.lt_trichotomy k fs.length with h | h | h
  · rw [List.getElem?_append_left h] at hg
    rw [List.getElem?_append_left (by omega)] at ht
    exact hd k g t hg ht
  · subst h
    rw [List.getElem?_append_right (Nat.le_refl _)] at hg
    rw [← hl, List.getElem?_append_right (Nat.le_refl _)] at ht
    simp at hg ht; subst hg; subst ht; exact hu
  · rw [List.getElem?_eq_none (by simp; omega)] at hg; cases hg
namespace Drv
def at_ (S : Drv) (D : Dir) (s : Nm) : Body := S.body ((dget D s).getD 0)
def image (S : Drv) : List File := (dnames S.now).map fun s => (s, (S.at_ S.now s).data)
def safes (S : Drv) : List File := (dnames S.kept).map fun s => (s, (S.at_ S.kept s).data.take (S.at_ S.kept s).safe)
end Drv
theorem fileInfo : (Tryz.prog.info? 171).map (fun i => (i.zero, i.size, i.bytes)) = some (some (.agg #[.string ⟨#[]⟩, .slice none 0 0]), 2, 40) := by kernel_rfl
end Go.Proofs.YtcbebefdbdppdaaGreat
namespace Go.Proofs.YtcbebefdbdppdaaGreat
open Go.RowKit Go.Maps
theorem Reads.cutTo {w : World} {B n : Nat} {A : Option Addr} {xs : List Value} {m : Nat} (h : Reads w B 1 A n xs) (hm : m ≤ n) : Reads w B 1 A m (xs.take m) := by
  refine ⟨by rw [List.length_take, h.1]; omega, fun h0 => ?_⟩
  obtain ⟨ad, e, hb, hc⟩ := h.2 (by omega)
  refine ⟨ad, e, hb, fun j u hu => hc j u ?_⟩
  rw [List.getElem?_take] at hu
  split at hu
  · exact hu
  · cases hu
theorem below_of_drew {B : Nat} {w w' : World} (h : Below B w.drew w') : Below B w w' := ⟨h.os, h.tape, h.output, h.size, h.block⟩
end Go.Proofs.YtcbebefdbdppdaaGreat
namespace Go.Proofs.YtcbebefdbdppdaaGreat
open Go.RowKit Go.Maps
structure Fz where
  round : Int
  call : Int
  inside : Int
structure Wnd where
  down : Bool
  away : Bool
  plan : List (Int × Int)
  calls : Int
  round : Int
  fuse : Option Fz
namespace Wnd
def new : Wnd := ⟨false, false, [], 0, 0, none⟩
def lit (X : Wnd) : Bool :=
  match X.fuse with
  | some f => f.round == 0
  | none => false
def scan (may : Bool) (number : Int) : List (Int × Int) → Int
  | [] => 0
  | f :: r => if f.1 = number then (if f.2 = 1 then 120 else if f.2 = 2 ∧ may = true then 111 else 0) else scan may number r
def hits (X : Wnd) : Bool :=
  match X.fuse with
  | some f => f.round == 0 && f.call == X.round
  | none => false
def inside (X : Wnd) : Int :=
  match X.fuse with
  | some f => max 0 f.inside
  | none => 0
def count (X : Wnd) : Wnd := { X with calls := X.calls + 1, round := X.round + 1 }
def struck (X : Wnd) (may : Bool) : Wnd × Int × Int :=
  if X.down = true then (X, 122, -1) else
  if X.away = true then (X, 121, -1) else
  if X.hits = true then ({ X.count with down := true }, 122, X.inside) else
  (X.count, scan may X.calls X.plan, -1)
def rest (X : Wnd) (off : Bool) : Wnd :=
  { X with
    fuse := (match X.fuse with
      | some f => if f.round = 0 then none else some { f with round := f.round - 1 }
      | none => none)
    round := 0, down := X.down || off }
def setFuse (X : Wnd) (r c i : Int) : Wnd := { X with fuse := if 0 ≤ r then some ⟨r, c, i⟩ else none }
def arm (X : Wnd) (plan : List (Int × Int)) : Wnd := { X with plan := plan, calls := 0 }
structure Ok (X : Wnd) : Prop where
  calls : 0 ≤ X.calls ∧ X.calls ≤ 1152921504606846976
  round : 0 ≤ X.round ∧ X.round ≤ 1152921504606846976
  plan : X.plan.length ≤ 8796093021952
  fuse : ∀ f, X.fuse = some f → 0 ≤ f.round ∧ f.round ≤ 9223372036854775807
end Wnd
def planCells (l : List (Int × Int)) : List Value := l.flatMap fun f => [.int .i64 f.1, .int .i64 f.2]
def fuseV (fq : Option Nat) : Value := .pointer (fq.map fun b => ⟨b, 0, none⟩)
structure WndAt (w : World) (q : Nat) (dv : Value) (X : Wnd) (pv : Value) (fq : Option Nat) : Prop where
  head : Blk w q 55 #[dv, .bool X.down, .bool X.away, pv, .int .i64 X.calls, .int .i64 X.round, fuseV fq]
  plan : w.ownsRow 0 214 2 pv X.plan.length (planCells X.plan)
  none_ : fq = none → X.fuse = none
  some_ : ∀ b, fq = some b → ∃ f, X.fuse = some f ∧ Blk w b 178 #[.int .i64 f.round, .int .i64 f.call, .int .i64 f.inside]
def wfoot (q : Nat) (pv : Value) (fq : Option Nat) (k : Nat) : Prop := k = q ∨ pv.ownBlock = some k ∨ fq = some k
def Wn (w : World) (q : Nat) (dv : Value) (X : Wnd) (F : Nat → Prop) : Prop := ∃ pv fq, WndAt w q dv X pv fq ∧ ∀ k, wfoot q pv fq k → F k
section
variable {w w' : World} {q : Nat} {dv : Value} {X : Wnd} {pv : Value} {fq : Option Nat} {F G : Nat → Prop}
theorem WndAt.keep (h : WndAt w q dv X pv fq) (hk : ∀ k, wfoot q pv fq k → w'.heap[k]? = w.heap[k]?) : WndAt w' q dv X pv fq where
  head := (hk q (.inl rfl)).trans h.head
  plan := ownsRow_keep h.plan fun k e => hk k (.inr (.inl e))
  none_ := h.none_
  some_ := fun b e => by
    obtain ⟨f, e1, hb⟩ := h.some_ b e
    exact ⟨f, e1, (hk b (.inr (.inr e))).trans hb⟩
theorem WndAt.foot_lt (h : WndAt w q dv X pv fq) {k : Nat} (hk : wfoot q pv fq k) : k < w.heap.size := by
  rcases hk with rfl | e | e
  · exact h.head.lt
  · exact (h.plan.lt k e).2
  · obtain ⟨f, _, hb⟩ := h.some_ k e
    exact hb.lt
theorem Wn.keep (h : Wn w q dv X F) (ht : Touch G w w') (hd : ∀ k, F k → ¬G k) : Wn w' q dv X F := by
  obtain ⟨pv, fq, h, hf⟩ := h
  exact ⟨pv, fq, h.keep fun k hk => ht.block k (h.foot_lt hk) (hd k (hf k hk)), hf⟩
theorem Wn.mono (h : Wn w q dv X F) (hFG : ∀ k, F k → G k) : Wn w q dv X G := by
  obtain ⟨pv, fq, h, hf⟩ := h
  exact ⟨pv, fq, h, fun k hk => hFG k (hf k hk)⟩
end
theorem lit_any (q : Nat) (dv : Value) (X : Wnd) (pv : Value) (fq : Option Nat) (w : World) (h : WndAt w q dv X pv fq) :
    Calls Tryz.prog 109 #[.pointer (some ⟨q, 0, none⟩)] w fun e w' => e = .returned (.bool X.lit) ∧ w = w' := by
  have h6 : w.cell? ⟨q, 6, none⟩ = some (fuseV fq) := h.head.cell 6
  cases fq with
  | none =>
    have hX : X.lit = false := by unfold Wnd.lit; rw [h.none_ rfl]
    rw [hX]
    simp only [fuseV, Option.map] at h6
    clear h hX
    go_enter Tryz.func109, Tryz.ntmps109
    go_wp2
    go_ret
    exact ⟨rfl, rfl⟩
  | some b =>
    obtain ⟨f, hf, hb⟩ := h.some_ b rfl
    have hX : X.lit = (f.round == 0) := by unfold Wnd.lit; rw [hf]
    rw [hX]
    simp only [fuseV, Option.map] at h6
    have hb0 : w.cell? ⟨b, 0, none⟩ = some (.int .i64 f.round) := hb.cell 0
    clear h hX hf hb
    go_enter Tryz.func109, Tryz.ntmps109
    go_wp2
    go_ret
    exact ⟨rfl, rfl⟩
end Go.Proofs.YtcbebefdbdppdaaGreat
