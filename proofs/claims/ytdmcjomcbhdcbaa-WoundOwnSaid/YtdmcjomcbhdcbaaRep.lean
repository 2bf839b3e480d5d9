/- How a drive of the plain model lies in memory: one struct, two maps, a block a body, a row of bytes a body, the pending changes. -/
import Derived.Test.YtdmcjomcbhdcbaaWords
import Derived.Test.YtdmcjomcbhdcbaaDm
import Derived.Test.YtdmcjomcbhdcbaaProg
import Derived.Maps.OwnSet
import Derived.StringKeys
namespace Go.Proofs.Ytdmcjomcbhdcbaa
open Go.RowKit Go.Maps Go.WideElems Go.WideMaps

def B8 (b : UInt8) : Value := .int .u8 (b.toNat : Int)
def strV (s : Nm) : Value := .string ⟨s.toArray⟩
/-- The block of a body, by its number. -/
def adrOf (addr : List Nat) (i : Nat) : Nat := addr.getD i 0
/-- The pointer to a body, by its number. -/
def ptrO (addr : List Nat) : Option Nat → Value
  | none => .pointer none
  | some i => .pointer (some ⟨adrOf addr i, 0, none⟩)
/-- What a directory's element reads as: the body's number. -/
def elemR (addr : List Nat) : Value → Option (DataW Unit × List MemPlace)
  | .pointer none => some (.nil, [])
  | .pointer (some ⟨b, 0, none⟩) => (addr.idxOf? b).map fun i => (num i, [])
  | _ => none

theorem idxOf?_inv {l : List Nat} {b i : Nat} (h : l.idxOf? b = some i) : i < l.length ∧ l.getD i 0 = b := by
  rw [List.idxOf?_eq_some_iff] at h
  obtain ⟨hi, h1, _⟩ := h
  exact ⟨hi, by simpa [List.getD, hi] using h1⟩
theorem idxOf?_mk {l : List Nat} {i : Nat} (hi : i < l.length) (hn : l.Nodup) : l.idxOf? (l.getD i 0) = some i := by
  rw [List.idxOf?_eq_some_iff]
  refine ⟨hi, by simp [List.getD, hi], fun j hj => ?_⟩
  have hjl : j < l.length := by omega
  simp only [List.getD, List.getElem?_eq_getElem hi, Option.getD_some]
  exact (List.pairwise_iff_getElem.1 hn) j i hjl hi hj

theorem elemR_ptr {addr : List Nat} {i : Nat} (hi : i < addr.length) (hn : addr.Nodup) : elemR addr (ptrO addr (some i)) = some (num i, []) := by
  simp only [ptrO, elemR, adrOf, idxOf?_mk hi hn, Option.map_some]
theorem elemR_inv {addr : List Nat} {v : Value} {d : DataW Unit} {ps : List MemPlace} (h : elemR addr v = some (d, ps)) : v = ptrO addr (numOf d) ∧ ps = [] ∧ (d = .nil ∨ ∃ i, d = num i ∧ i < addr.length) := by
  unfold elemR at h
  split at h
  · simp only [Option.some.injEq, Prod.mk.injEq] at h
    obtain ⟨rfl, rfl⟩ := h
    exact ⟨rfl, rfl, .inl rfl⟩
  · rename_i b
    simp only [Option.map_eq_some_iff, Prod.mk.injEq] at h
    obtain ⟨i, hi, rfl, rfl⟩ := h
    obtain ⟨h1, h2⟩ := idxOf?_inv hi
    exact ⟨by rw [numOf_num]; simp only [ptrO, adrOf, h2], rfl, .inr ⟨i, rfl, h1⟩⟩
  · cases h

/-- More bodies: what is there reads as it did. -/
theorem elemR_more {addr more : List Nat} {v : Value} {z : DataW Unit × List MemPlace} (h : elemR addr v = some z) : elemR (addr ++ more) v = some z := by
  unfold elemR at h ⊢
  split at h
  · exact h
  · rename_i b
    simp only [Option.map_eq_some_iff] at h ⊢
    obtain ⟨i, hi, rfl⟩ := h
    refine ⟨i, ?_, rfl⟩
    rw [List.idxOf?_eq_some_iff] at hi ⊢
    obtain ⟨h0, h1, h2⟩ := hi
    refine ⟨by simp; omega, by rw [List.getElem_append_left h0]; exact h1, fun j hj => ?_⟩
    rw [List.getElem_append_left (by omega)]
    exact h2 j hj
  · cases h

theorem dirKeyed : Keyed Try.prog 9 := string_keyed Try.underlying9
theorem nilBody (w : World) : (zeroValue 109).run Try.prog w = .ok (.pointer none) w := by kernel_rfl

/-- A directory, as the map in block b. -/
def DirAt (w : World) (addr : List Nat) (b : Nat) (D : Dir) : Prop := w.ownsMap Try.prog 9 (elemR addr) b (size D) D

section
variable {w w' : World} {addr : List Nat} {b : Nat} {D : Dir}
theorem DirAt.of {n : Nat} (h : w.ownsMap Try.prog 9 (elemR addr) b n D) : DirAt w addr b D := by
  obtain ⟨es, clock, hb, F, hs, rfl⟩ := h
  exact ⟨es, clock, hb, F, by rw [size_eq, length_sorted]; simp, rfl⟩
theorem DirAt.lt (h : DirAt w addr b D) : b < w.heap.size := World.ownsMap.lt h
theorem DirAt.keep (h : DirAt w addr b D) (hk : w'.heap[b]? = w.heap[b]?) : DirAt w' addr b D := by
  obtain ⟨es, clock, hb, F, hs, hD⟩ := h
  exact ⟨es, clock, hk.trans hb, F, hs, hD⟩
theorem DirAt.more (h : DirAt w addr b D) (more : List Nat) : DirAt w (addr ++ more) b D := by
  obtain ⟨es, clock, hb, F, hs, hD⟩ := h
  obtain ⟨F', e, _⟩ := F.stay (R' := elemR (addr ++ more)) (fun _ _ _ hz => elemR_more hz)
  exact ⟨es, clock, hb, F', hs, by rw [e]; exact hD⟩
theorem DirAt.tidy (h : DirAt w addr b D) : Tidy D := World.ownsMap.tidy h dirKeyed
theorem DirAt.canon (h : DirAt w addr b D) : Canon D := World.ownsMap.canon h dirKeyed
theorem DirAt.lookup (h : DirAt w addr b D) (s : ByteArray) (hs : s.size ≤ maxLen) :
    (Instr.lookup 87 (.map (some b)) (.string s) false).run Try.prog w = .ok (ptrO addr (dget D s.data.toList)) w := by
  obtain ⟨v, ps, hrun, hv⟩ := World.ownsMap.lookup h dirKeyed Try.underlying87 (nilBody w) (zd := .nil) (zp := []) rfl (keyOf_string_mk Try.underlying9 hs)
  rw [hrun, (elemR_inv hv).1]; rfl
theorem DirAt.dget_lt (h : DirAt w addr b D) (s : Nm) (hs : s.length ≤ maxLen) {i : Nat} (hi : dget D s = some i) : i < addr.length := by
  obtain ⟨v, ps, hrun, hv⟩ := World.ownsMap.lookup h dirKeyed Try.underlying87 (nilBody w) (zd := .nil) (zp := []) rfl (keyOf_string_mk Try.underlying9 (s := ⟨s.toArray⟩) (by simpa [ByteArray.size] using hs))
  rcases (elemR_inv hv).2.2 with e | ⟨j, e, hj⟩
  · exfalso
    unfold dget at hi
    have e' : D.atKey (key s) .nil = .nil := e
    rw [e'] at hi; cases hi
  · unfold dget at hi
    have e' : D.atKey (key s) .nil = num j := e
    rw [e', numOf_num] at hi
    injection hi with hi
    omega
theorem DirAt.put (h : DirAt w addr b D) (hn : size D < maxLen) (hd : addr.Nodup) (s : ByteArray) (hs : s.size ≤ maxLen) (i : Nat) (hi : i < addr.length) :
    ∃ w', (Instr.mapUpdate 87 (.map (some b)) (.string s) (ptrO addr (some i))).run Try.prog w = .ok () w' ∧ DirAt w' addr b (D.put (key s.data.toList) (num i)) ∧ w.grownBy w' (some b) ∧ w'.heap.size = w.heap.size := by
  obtain ⟨w', hrun, ho, ht⟩ := World.ownsMap.store h dirKeyed Try.underlying87 hn (keyOf_string_mk Try.underlying9 hs) (elemR_ptr hi hd)
  exact ⟨w', hrun, .of ho, ht.grown, by obtain ⟨_, _, _, _, _, rfl⟩ := ht; simp [ChangeMaps.setBlock]⟩
theorem DirAt.drop (h : DirAt w addr b D) (s : ByteArray) (hs : s.size ≤ maxLen) (ty : TypeId) :
    ∃ w', (Builtin.delete_ #[87, 9] ty #[.map (some b), .string s]).run Try.prog w = .ok (.tuple #[]) w' ∧ DirAt w' addr b (D.del (key s.data.toList)) ∧ w.grownBy w' (some b) ∧ w'.heap.size = w.heap.size := by
  obtain ⟨w', hrun, ho, ht⟩ := World.ownsMap.drop h dirKeyed Try.underlying87 (keyOf_string_mk Try.underlying9 hs) ty
  exact ⟨w', hrun, .of ho, ht.grown, by obtain ⟨_, _, _, _, _, rfl⟩ := ht; simp [ChangeMaps.setBlock]⟩
theorem DirAt.len (h : DirAt w addr b D) : (Builtin.len_ #[87] 3 #[.map (some b)]).run Try.prog w = .ok (.int .i64 (size D)) w := World.ownsMap.len h Try.underlying87 _
end
end Go.Proofs.Ytdmcjomcbhdcbaa
