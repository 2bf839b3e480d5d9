/- The plain model of a drive: names lead to bodies by number; what is pending; what a loss of power leaves. No program in sight. -/
import Derived.Maps.Ext
import Derived.Maps.Views
import Derived.Maps.Own
namespace Go.Proofs.Ytdmcjomcbhdcbaa
open Go.Maps

/-- A name, and the bytes of a file. -/
abbrev Nm := List UInt8
/-- Which names lead to which bodies. -/
abbrev Dir := DataW Unit

def key (s : Nm) : Lit := .string s
def num (i : Nat) : DataW Unit := .lit (.int .u64 (i : Int))
def numOf : DataW Unit → Option Nat
  | .lit (.int .u64 i) => some i.toNat
  | _ => none
theorem numOf_num (i : Nat) : numOf (num i) = some i := by simp [numOf, num]

/-- The body of a name. -/
def dget (D : Dir) (s : Nm) : Option Nat := numOf (D.atKey (key s) .nil)

theorem isKey (s : Nm) : WideAt.IsKeyLit (key s) := by simp [WideAt.IsKeyLit, key]
theorem key_ne {s t : Nm} (h : s ≠ t) : key s ≠ key t := fun e => h (by unfold key at e; injection e)

theorem dget_put_same {D : Dir} (h : IsMap D) (s : Nm) (i : Nat) : dget (D.put (key s) (num i)) s = some i := by
  unfold dget; rw [atKey_put_same h (isKey s)]; exact numOf_num i
theorem dget_put_other {D : Dir} {s t : Nm} (h : t ≠ s) (d : DataW Unit) : dget (D.put (key s) d) t = dget D t := by
  unfold dget; rw [atKey_put_other (key_ne h)]
theorem dget_del_same (D : Dir) (s : Nm) : dget (D.del (key s)) s = none := by
  unfold dget; rw [atKey_del_same]; rfl
theorem dget_del_other {D : Dir} {s t : Nm} (h : t ≠ s) : dget (D.del (key s)) t = dget D t := by
  unfold dget; rw [atKey_del_other (key_ne h)]
theorem dget_empty (s : Nm) : dget (.map []) s = none := rfl

structure Body where
  data : List UInt8
  safe : Nat

/-- What a change says of a name. -/
abbrev Stp := Nm × Option Nat

structure Drv where
  room : Nat
  used : Int
  bodies : List Body
  now : Dir
  kept : Dir
  pending : List (List Stp)

namespace Drv
def body (S : Drv) (i : Nat) : Body := S.bodies.getD i ⟨[], 0⟩
def len (S : Drv) (i : Nat) : Nat := (S.body i).data.length
def lenO (S : Drv) : Option Nat → Int
  | none => 0
  | some i => S.len i
def new (room : Nat) : Drv := ⟨room, 0, [], .map [], .map [], []⟩
end Drv

def named (s : Nm) : Bool := decide (1 ≤ s.length ∧ s.length ≤ 1024)
def applyStp (D : Dir) (s : Stp) : Dir :=
  match s.2 with
  | none => D.del (key s.1)
  | some i => D.put (key s.1) (num i)
def applyC (D : Dir) (c : List Stp) : Dir := c.foldl applyStp D

namespace Drv
def chStp (S : Drv) (s : Stp) : Drv := { S with used := S.used - S.lenO (dget S.now s.1) + S.lenO s.2, now := applyStp S.now s }
def chAll (S : Drv) (c : List Stp) : Drv := c.foldl chStp S
def change (S : Drv) (c : List Stp) : Drv := { S.chAll c with pending := (S.chAll c).pending ++ [c] }
def create (S : Drv) (s : Nm) : Drv × Int :=
  if named s = false then (S, 91) else
  if dget S.now s = none ∧ 65536 ≤ size S.now then (S, 112) else
  (change { S with bodies := S.bodies ++ [⟨[], 0⟩] } [(s, some S.bodies.length)], 0)
/-- The body of a name, or why there is none. -/
def find (S : Drv) (s : Nm) : Option Nat × Int :=
  if named s = false then (none, 91) else
  match dget S.now s with
  | some i => (some i, 0)
  | none => (none, 110)
def setBody (S : Drv) (i : Nat) (B : Body) : Drv := { S with bodies := S.bodies.set i B }
def append (S : Drv) (s : Nm) (d : List UInt8) : Drv × Int :=
  match S.find s with
  | (none, e) => (S, e)
  | (some i, _) =>
    if d = [] then (S, 0) else
    if (S.room : Int) < S.used + d.length then (S, 111) else
    ({ S.setBody i ⟨(S.body i).data ++ d, (S.body i).safe⟩ with used := S.used + d.length }, 0)
def sync (S : Drv) (s : Nm) : Drv × Int :=
  match S.find s with
  | (none, e) => (S, e)
  | (some i, _) => (S.setBody i ⟨(S.body i).data, S.len i⟩, 0)
def rename (S : Drv) (old to : Nm) : Drv × Int :=
  if named old = true ∧ named to = false then (S, 91) else
  match S.find old with
  | (none, e) => (S, e)
  | (some i, _) => if old = to then (S, 0) else (S.change [(old, none), (to, some i)], 0)
def remove (S : Drv) (s : Nm) : Drv × Int :=
  match S.find s with
  | (none, e) => (S, e)
  | (some _, _) => (S.change [(s, none)], 0)
def syncDir (S : Drv) : Drv := { S with kept := S.now, pending := [] }
def read (S : Drv) (s : Nm) : List UInt8 × Int :=
  match S.find s with
  | (none, e) => ([], e)
  | (some i, _) => ((S.body i).data, 0)
def loose (S : Drv) (s : Nm) : Int × Int :=
  match S.find s with
  | (none, e) => (0, e)
  | (some i, _) => ((S.len i : Int) - (S.body i).safe, 0)
end Drv
end Go.Proofs.Ytdmcjomcbhdcbaa
