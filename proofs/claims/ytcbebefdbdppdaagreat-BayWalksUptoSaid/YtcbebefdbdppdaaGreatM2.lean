/- How a drive of the plain model lies in memory: one struct, two maps, a block a body, a row of bytes a body, the pending changes.; A whole drive in memory, and what its blocks are.; Contracts of the drive: is a text a name; a new drive; the body of a name. -/
import Derived.Test.YtcbebefdbdppdaaGreatM1
import Derived.Test.YtcbebefdbdppdaaGreatProg
import Derived.Maps.OwnSet
import Derived.StringKeys
import Derived.Deep.QuietTactic
import Derived.BigQuiet
import Derived.WalkLawsBesides
import Derived.Deep.DeepMust
namespace Go.Proofs.YtcbebefdbdppdaaGreat
open Go.RowKit Go.Maps Go.WideElems Go.WideMaps
def B8 (b : UInt8) : Value := .int .u8 (b.toNat : Int)
def strV (s : Nm) : Value := .string ⟨s.toArray⟩
def adrOf (addr : List Nat) (i : Nat) : Nat := addr.getD i 0
def ptrO (addr : List Nat) : Option Nat → Value
  | none => .pointer none
  | some i => .pointer (some ⟨adrOf addr i, 0, none⟩)
def elemR (addr : List Nat) : Value → Option (DataW Unit × List MemPlace)
  | .pointer none => some (.nil, [])
  | .pointer (some ⟨b, 0, none⟩) => (addr.idxOf? b).map fun i => (num i, [])
  | _ => none
theorem idxOf?_inv {l : List Nat} {b i : Nat} (h : l.idxOf? b = some i) : i < l.length ∧ l.getD i 0 = b := by
  rw [List.idxOf?_eq_some_iff] at h
  obtain ⟨hi, h1, _⟩ := h
  exact ⟨hi, by simpa [List.getD, hi] using h1⟩
theorem idxOf?_mk {l : List Nat} {i : Nat} (hi : i < l.length) (hn : l.Nodup) : l.idxOf? (l.getD i 0) = some i := by
  rw [List.idxOf?_eq_some_iff]
  refine ⟨hi, by simp [List.getD, hi], fun j hj => ?_⟩
  have hjl : j < l.length := by omega
  simp only [List.getD, List.getElem?_eq_getElem hi, Option.getD_some]
  exact (List.pairwise_iff_getElem.1 hn) j i hjl hi hj
theorem elemR_ptr {addr : List Nat} {i : Nat} (hi : i < addr.length) (hn : addr.Nodup) : elemR addr (ptrO addr (some i)) = some (num i, []) := by
  simp only [ptrO, elemR, adrOf, idxOf?_mk hi hn, Option.map_some]
theorem elemR_inv {addr : List Nat} {v : Value} {d : DataW Unit} {ps : List MemPlace} (h : elemR addr v = some (d, ps)) : v = ptrO addr (numOf d) ∧ ps = [] ∧ (d = .nil ∨ ∃ i, d = num i ∧ i < addr.length) := by
  unfold elemR at h
  split at h
  · simp only [Option.some.injEq, Prod.mk.injEq] at h
    obtain ⟨rfl, rfl⟩ := h
    exact ⟨rfl, rfl, .inl rfl⟩
  · rename_i b
    simp only [Option.map_eq_some_iff, Prod.mk.injEq] at h
    obtain ⟨i, hi, rfl, rfl⟩ := h
    obtain ⟨h1, h2⟩ := idxOf?_inv hi
    exact ⟨by rw [numOf_num]; simp only [ptrO, adrOf, h2], rfl, .inr ⟨i, rfl, h1⟩⟩
  · cases h
theorem elemR_more {addr more : List Nat} {v : Value} {z : DataW Unit × List MemPlace} (h : elemR addr v = some z) : elemR (addr ++ more) v = some z := by
  unfold elemR at h ⊢
  split at h
  · exact h
  · rename_i b
    simp only [Option.map_eq_some_iff] at h ⊢
    obtain ⟨i, hi, rfl⟩ := h
    refine ⟨i, ?_, rfl⟩
    rw [List.idxOf?_eq_some_iff] at hi ⊢
    obtain ⟨h0, h1, h2⟩ := hi
    refine ⟨by simp; omega, by rw [List.getElem_append_left h0]; exact h1, fun j hj => ?_⟩
    rw [List.getElem_append_left (by omega)]
    exact h2 j hj
  · cases h
theorem dirKeyed : Keyed Tryz.prog 9 := string_keyed Tryz.underlying9
theorem nilBody (w : World) : (zeroValue 147).run Tryz.prog w = .ok (.pointer none) w := by kernel_rfl
def DirAt (w : World) (addr : List Nat) (b : Nat) (D : Dir) : Prop := w.ownsMap Tryz.prog 9 (elemR addr) b (size D) D
section
variable {w w' : World} {addr : List Nat} {b : Nat} {D : Dir}
theorem DirAt.of {n : Nat} (h : w.ownsMap Tryz.prog 9 (elemR addr) b n D) : DirAt w addr b D := by
  obtain ⟨es, clock, hb, F, hs, rfl⟩ := h
  exact ⟨es, clock, hb, F, by rw [size_eq, length_sorted]; simp, rfl⟩
theorem DirAt.lt (h : DirAt w addr b D) : b < w.heap.size := World.ownsMap.lt h
theorem DirAt.keep (h : DirAt w addr b D) (hk : w'.heap[b]? = w.heap[b]?) : DirAt w' addr b D := by
  obtain ⟨es, clock, hb, F, hs, hD⟩ := h
  exact ⟨es, clock, hk.trans hb, F, hs, hD⟩
theorem DirAt.more (h : DirAt w addr b D) (more : List Nat) : DirAt w (addr ++ more) b D := by
  obtain ⟨es, clock, hb, F, hs, hD⟩ := h
  obtain ⟨F', e, _⟩ := F.stay (R' := elemR (addr ++ more)) (fun _ _ _ hz => elemR_more hz)
  exact ⟨es, clock, hb, F', hs, by rw [e]; exact hD⟩
theorem DirAt.tidy (h : DirAt w addr b D) : Tidy D := World.ownsMap.tidy h dirKeyed
theorem DirAt.lookup (h : DirAt w addr b D) (s : ByteArray) (hs : s.size ≤ maxLen) :
    (Instr.lookup 135 (.map (some b)) (.string s) false).run Tryz.prog w = .ok (ptrO addr (dget D s.data.toList)) w := by
  obtain ⟨v, ps, hrun, hv⟩ := World.ownsMap.lookup h dirKeyed Tryz.underlying135 (nilBody w) (zd := .nil) (zp := []) rfl (keyOf_string_mk Tryz.underlying9 hs)
  rw [hrun, (elemR_inv hv).1]; rfl
theorem DirAt.dget_lt (h : DirAt w addr b D) (s : Nm) (hs : s.length ≤ maxLen) {i : Nat} (hi : dget D s = some i) : i < addr.length := by
  obtain ⟨v, ps, hrun, hv⟩ := World.ownsMap.lookup h dirKeyed Tryz.underlying135 (nilBody w) (zd := .nil) (zp := []) rfl (keyOf_string_mk Tryz.underlying9 (s := ⟨s.toArray⟩) (by simpa [ByteArray.size] using hs))
  rcases (elemR_inv hv).2.2 with e | ⟨j, e, hj⟩
  · exfalso
    unfold dget at hi
    have e' : D.atKey (key s) .nil = .nil := e
    rw [e'] at hi; cases hi
  · unfold dget at hi
    have e' : D.atKey (key s) .nil = num j := e
    rw [e', numOf_num] at hi
    injection hi with hi
    omega
theorem DirAt.put (h : DirAt w addr b D) (hn : size D < maxLen) (hd : addr.Nodup) (s : ByteArray) (hs : s.size ≤ maxLen) (i : Nat) (hi : i < addr.length) :
    ∃ w', (Instr.mapUpdate 135 (.map (some b)) (.string s) (ptrO addr (some i))).run Tryz.prog w = .ok () w' ∧ DirAt w' addr b (D.put (key s.data.toList) (num i)) ∧ w.grownBy w' (some b) ∧ w'.heap.size = w.heap.size := by
  obtain ⟨w', hrun, ho, ht⟩ := World.ownsMap.store h dirKeyed Tryz.underlying135 hn (keyOf_string_mk Tryz.underlying9 hs) (elemR_ptr hi hd)
  exact ⟨w', hrun, .of ho, ht.grown, by obtain ⟨_, _, _, _, _, rfl⟩ := ht; simp [ChangeMaps.setBlock]⟩
theorem DirAt.drop (h : DirAt w addr b D) (s : ByteArray) (hs : s.size ≤ maxLen) (ty : TypeId) :
    ∃ w', (Builtin.delete_ #[135, 9] ty #[.map (some b), .string s]).run Tryz.prog w = .ok (.tuple #[]) w' ∧ DirAt w' addr b (D.del (key s.data.toList)) ∧ w.grownBy w' (some b) ∧ w'.heap.size = w.heap.size := by
  obtain ⟨w', hrun, ho, ht⟩ := World.ownsMap.drop h dirKeyed Tryz.underlying135 (keyOf_string_mk Tryz.underlying9 hs) ty
  exact ⟨w', hrun, .of ho, ht.grown, by obtain ⟨_, _, _, _, _, rfl⟩ := ht; simp [ChangeMaps.setBlock]⟩
theorem DirAt.len (h : DirAt w addr b D) : (Builtin.len_ #[135] 3 #[.map (some b)]).run Tryz.prog w = .ok (.int .i64 (size D)) w := World.ownsMap.len h Tryz.underlying135 _
end
end Go.Proofs.YtcbebefdbdppdaaGreat
namespace Go.Proofs.YtcbebefdbdppdaaGreat
open Go.RowKit Go.Maps
def chgCells (addr : List Nat) (c : List Stp) : List Value := c.flatMap fun s => [strV s.1, ptrO addr s.2]
def innerV (g : Nat) (c : List Stp) : Value := .slice (some ⟨g, 0, none⟩) c.length c.length
def okC (addr : List Nat) (c : List Stp) : Prop := ∀ s ∈ c, s.1.length ≤ maxLen ∧ ∀ i, s.2 = some i → i < addr.length
structure Lay where
  nowM : Nat
  keptM : Nat
  addr : List Nat
  vals : List Value
  pv : Value
  inner : List Nat
def Lay.val (L : Lay) (i : Nat) : Value := L.vals.getD i (.slice none 0 0)
def Lay.adr (L : Lay) (i : Nat) : Nat := adrOf L.addr i
def Lay.inr (L : Lay) (j : Nat) : Nat := L.inner.getD j 0
structure DrvAt (w : World) (p : Nat) (S : Drv) (L : Lay) : Prop where
  head : Blk w p 138 #[.int .i64 S.room, .int .i64 S.used, .map (some L.nowM), .map (some L.keptM), L.pv]
  now : DirAt w L.addr L.nowM S.now
  kept : DirAt w L.addr L.keptM S.kept
  ne : L.nowM ≠ L.keptM
  nodup : L.addr.Nodup
  la : L.addr.length = S.bodies.length
  lv : L.vals.length = S.bodies.length
  body : ∀ i, i < S.bodies.length → Blk w (L.adr i) 151 #[L.val i, .int .i64 (S.body i).safe]
  data : ∀ i, i < S.bodies.length → w.ownsRow 0 5 1 (L.val i) (S.len i) ((S.body i).data.map B8)
  rows : ∀ i j, i < S.bodies.length → j < S.bodies.length → i ≠ j → (L.val i).ownBlock = none ∨ (L.val i).ownBlock ≠ (L.val j).ownBlock
  pend : w.ownsRow 0 175 1 L.pv S.pending.length (List.zipWith innerV L.inner S.pending)
  li : L.inner.length = S.pending.length
  pok : ∀ c ∈ S.pending, okC L.addr c
  inner : ∀ j, j < S.pending.length → Blk w (L.inr j) 240 (chgCells L.addr (S.pending.getD j [])).toArray
def Lay.foot (L : Lay) (p k : Nat) : Prop := k = p ∨ k = L.nowM ∨ k = L.keptM ∨ k ∈ L.addr ∨ (∃ v ∈ L.vals, v.ownBlock = some k) ∨ L.pv.ownBlock = some k ∨ k ∈ L.inner
theorem ownsRow_keep {w w' : World} {base : Nat} {e : TypeId} {size n : Nat} {v : Value} {xs : List Value} (h : w.ownsRow base e size v n xs) (hk : ∀ k, v.ownBlock = some k → w'.heap[k]? = w.heap[k]?) : w'.ownsRow base e size v n xs := by
  refine ⟨h.1, ?_⟩
  rcases h.2 with h2 | ⟨g, cap, cur, hv, hb, hg, r⟩
  · exact .inl h2
  · exact .inr ⟨g, cap, cur, hv, hb, (hk g (by rw [hv]; rfl)).trans hg, r⟩
theorem getD_mem {α : Type} {l : List α} {i : Nat} (d : α) (h : i < l.length) : l.getD i d ∈ l := by
  simp only [List.getD, List.getElem?_eq_getElem h, Option.getD_some]; exact List.getElem_mem h
theorem DrvAt.keep {w w' : World} {p : Nat} {S : Drv} {L : Lay} (h : DrvAt w p S L) (hk : ∀ k, L.foot p k → w'.heap[k]? = w.heap[k]?) : DrvAt w' p S L where
  head := (hk p (.inl rfl)).trans h.head
  now := h.now.keep (hk _ (.inr (.inl rfl)))
  kept := h.kept.keep (hk _ (.inr (.inr (.inl rfl))))
  ne := h.ne
  nodup := h.nodup
  la := h.la
  lv := h.lv
  body i hi := (hk _ (.inr (.inr (.inr (.inl (getD_mem 0 (by rw [h.la]; exact hi))))))).trans (h.body i hi)
  data i hi := ownsRow_keep (h.data i hi) fun k hv => hk k (.inr (.inr (.inr (.inr (.inl ⟨_, getD_mem _ (by rw [h.lv]; exact hi), hv⟩)))))
  rows := h.rows
  pend := ownsRow_keep h.pend fun k hv => hk k (.inr (.inr (.inr (.inr (.inr (.inl hv))))))
  li := h.li
  pok := h.pok
  inner j hj := (hk _ (.inr (.inr (.inr (.inr (.inr (.inr (getD_mem 0 (by rw [h.li]; exact hj)))))))))|>.trans (h.inner j hj)
theorem DrvAt.foot_lt {w : World} {p : Nat} {S : Drv} {L : Lay} (h : DrvAt w p S L) {k : Nat} (hk : L.foot p k) : k < w.heap.size := by
  rcases hk with rfl | rfl | rfl | hk | ⟨v, hv, hk⟩ | hk | hk
  · exact h.head.lt
  · exact h.now.lt
  · exact h.kept.lt
  · obtain ⟨i, hi, rfl⟩ := List.getElem_of_mem hk
    have := (h.body i (by rw [← h.la]; exact hi)).lt
    simpa [Lay.adr, adrOf, List.getD, hi] using this
  · obtain ⟨i, hi, rfl⟩ := List.getElem_of_mem hv
    have h1 := h.data i (by rw [← h.lv]; exact hi)
    have e : L.val i = L.vals[i] := by simp [Lay.val, List.getD, hi]
    rw [e] at h1
    exact (h1.lt k hk).2
  · exact (h.pend.lt k hk).2
  · obtain ⟨j, hj, rfl⟩ := List.getElem_of_mem hk
    have := (h.inner j (by rw [← h.li]; exact hj)).lt
    simpa [Lay.inr, List.getD, hj] using this
structure Touch (F : Nat → Prop) (w w' : World) : Prop where
  os : w'.os = w.os
  tape : w'.tape = w.tape
  output : w'.output = w.output
  size : w.heap.size ≤ w'.heap.size
  block : ∀ k, k < w.heap.size → ¬F k → w'.heap[k]? = w.heap[k]?
def grow (F : Nat → Prop) (w w' : World) (k : Nat) : Prop := F k ∨ (w.heap.size ≤ k ∧ k < w'.heap.size)
theorem Touch.refl (F : Nat → Prop) (w : World) : Touch F w w := ⟨rfl, rfl, rfl, Nat.le_refl _, fun _ _ _ => rfl⟩
theorem Touch.trans {F : Nat → Prop} {a b c : World} (h : Touch F a b) (k : Touch (grow F a b) b c) : Touch F a c :=
  ⟨k.os.trans h.os, k.tape.trans h.tape, k.output.trans h.output, Nat.le_trans h.size k.size, fun i hi hn =>
    (k.block i (Nat.lt_of_lt_of_le hi h.size) (fun hg => by rcases hg with hg | ⟨hg, _⟩; exact hn hg; omega)).trans (h.block i hi hn)⟩
theorem Touch.mono {F G : Nat → Prop} {w w' : World} (h : Touch F w w') (hFG : ∀ k, k < w.heap.size → F k → G k) : Touch G w w' :=
  ⟨h.os, h.tape, h.output, h.size, fun k hk hn => h.block k hk (fun hf => hn (hFG k hk hf))⟩
theorem Touch.of_below {F : Nat → Prop} {w w' : World} (h : Below w.heap.size w w') : Touch F w w' := ⟨h.os, h.tape, h.output, h.size, fun k hk _ => h.block k hk⟩
theorem Touch.of_grown {F : Nat → Prop} {w w' : World} {row : Option Nat} (h : w.grownBy w' row) (hr : ∀ k, row = some k → F k) : Touch F w w' :=
  ⟨h.os, h.tape, h.output, h.size, fun k hk hn => h.block k hk (fun e => hn (hr k e.symm))⟩
theorem Touch.below {F : Nat → Prop} {w w' : World} {B : Nat} (h : Touch F w w') (hB : B ≤ w.heap.size) (hF : ∀ k, F k → B ≤ k) : Below B w w' :=
  ⟨h.os, h.tape, h.output, h.size, fun k hk => h.block k (by omega) (fun hf => by have := hF k hf; omega)⟩
theorem Touch.alloc {F : Nat → Prop} (w : World) (o : Obj) : Touch F w (w.alloc o) := .of_below ((Below.refl _ _).alloc (Nat.le_refl _) o)
theorem Touch.drewN {F : Nat → Prop} (w : World) (n : Nat) : Touch F w (w.drewN n) := .of_below (below_drewN (Below.refl _ _) n)
theorem Touch.setCell {F : Nat → Prop} (w : World) (p : Addr) (u : Value) (hp : F p.block) : Touch F w (w.setCell p u) :=
  ⟨rfl, rfl, rfl, by simp [World.setCell], fun k _ hn => Below.heap_setCell w p u k (fun e => hn (by rw [e]; exact hp))⟩
theorem grow_trans {F : Nat → Prop} {a b c : World} (hab : a.heap.size ≤ b.heap.size) (hbc : b.heap.size ≤ c.heap.size) (k : Nat) : grow (grow F a b) b c k ↔ grow F a c k := by
  unfold grow
  constructor
  · rintro ((h | ⟨h1, h2⟩) | ⟨h1, h2⟩)
    · exact .inl h
    · exact .inr ⟨h1, by omega⟩
    · exact .inr ⟨by omega, h2⟩
  · rintro (h | ⟨h1, h2⟩)
    · exact .inl (.inl h)
    · by_cases hk : k < b.heap.size
      · exact .inl (.inr ⟨h1, hk⟩)
      · exact .inr ⟨by omega, h2⟩
def DrA (w : World) (p : Nat) (S : Drv) (addr : List Nat) (F : Nat → Prop) : Prop := ∃ L, L.addr = addr ∧ DrvAt w p S L ∧ ∀ k, L.foot p k → F k
def Dr (w : World) (p : Nat) (S : Drv) (F : Nat → Prop) : Prop := ∃ addr, DrA w p S addr F
theorem DrA.keep {w w' : World} {p : Nat} {S : Drv} {addr : List Nat} {F G : Nat → Prop} (h : DrA w p S addr F) (ht : Touch G w w') (hd : ∀ k, F k → ¬G k) : DrA w' p S addr F := by
  obtain ⟨L, rfl, hD, hF⟩ := h
  exact ⟨L, rfl, hD.keep fun k hk => ht.block k (hD.foot_lt hk) (hd k (hF k hk)), hF⟩
theorem Dr.keep {w w' : World} {p : Nat} {S : Drv} {F G : Nat → Prop} (h : Dr w p S F) (ht : Touch G w w') (hd : ∀ k, F k → ¬G k) : Dr w' p S F := by
  obtain ⟨addr, h⟩ := h; exact ⟨addr, h.keep ht hd⟩
theorem DrA.mono {w : World} {p : Nat} {S : Drv} {addr : List Nat} {F G : Nat → Prop} (h : DrA w p S addr F) (hFG : ∀ k, F k → G k) : DrA w p S addr G := by
  obtain ⟨L, rfl, hD, hF⟩ := h; exact ⟨L, rfl, hD, fun k hk => hFG k (hF k hk)⟩
theorem Dr.mono {w : World} {p : Nat} {S : Drv} {F G : Nat → Prop} (h : Dr w p S F) (hFG : ∀ k, F k → G k) : Dr w p S G := by
  obtain ⟨addr, h⟩ := h; exact ⟨addr, h.mono hFG⟩
end Go.Proofs.YtcbebefdbdppdaaGreat
namespace Go.Proofs.YtcbebefdbdppdaaGreat
open Go.RowKit Go.Maps
theorem len_size (s : ByteArray) : s.data.toList.length = s.size := by rw [Array.length_toList]; rfl
theorem ret_bool {a b : Bool} (h : a = b) : Ending.returned (.bool a) = .returned (.bool b) := by rw [h]
theorem named_any (s : ByteArray) (w : World) (hs : s.size ≤ maxLen) :
    Calls Tryz.prog 66 #[.string s] w fun e w' => e = .returned (.bool (named s.data.toList)) ∧ w = w' := by
  unfold maxLen at hs
  by_cases h1 : 1 ≤ s.size
  · have HN : Hid (decide ((s.size : Int) ≤ 1024) = named s.data.toList) := by
      unfold named; rw [len_size, Hid, decide_eq_decide]; omega
    go_enter Tryz.func66, Tryz.ntmps66
    go_wp2
    go_ret
    exact ⟨ret_bool HN.out, rfl⟩
  · have HN : Hid (false = named s.data.toList) := by
      unfold named; rw [len_size, Hid, decide_eq_false (fun h => h1 h.1)]
    go_enter Tryz.func66, Tryz.ntmps66
    go_wp2
    go_ret
    exact ⟨ret_bool HN.out, rfl⟩
theorem new_bad (r : Int) (w : World) (h : r < 0 ∨ 1073741824 < r) :
    Calls Tryz.prog 12 #[.int .i64 r] w fun e w' => e = .returned (.pointer none) ∧ w = w' := by
  rcases h with h | h
  · go_enter Tryz.func12, Tryz.ntmps12
    go_wp2
    go_ret
    exact ⟨rfl, rfl⟩
  · have h' : ¬ r < 0 := by omega
    go_enter Tryz.func12, Tryz.ntmps12
    go_wp2
    go_ret
    exact ⟨rfl, rfl⟩
theorem new_good (r : Int) (w : World) (h0 : 0 ≤ r) (h1 : r ≤ 1073741824) :
    Calls Tryz.prog 12 #[.int .i64 r] w fun e w' => e = .returned (.pointer (some ⟨w.heap.size + 2, 0, none⟩)) ∧
      w' = ((w.alloc (.map #[] 0)).alloc (.map #[] 0)).alloc (.cells #[.int .i64 r, .int .i64 0, .map (some w.heap.size), .map (some (w.heap.size + 1)), .slice none 0 0] 138) := by
  have hmm := @run_makeMap Tryz.prog
  go_enter Tryz.func12, Tryz.ntmps12
  go_wp2
  go_ret
  exact ⟨rfl, rfl⟩
theorem dr_new (w : World) (r : Nat) :
    DrA (((w.alloc (.map #[] 0)).alloc (.map #[] 0)).alloc (.cells #[.int .i64 r, .int .i64 0, .map (some w.heap.size), .map (some (w.heap.size + 1)), .slice none 0 0] 138))
      (w.heap.size + 2) (Drv.new r) [] (fun k => w.heap.size ≤ k) := by
  have h1 : (w.alloc (.map #[] 0)).ownsMap Tryz.prog 9 (elemR []) w.heap.size 0 (.map []) := World.ownsMap_made w _ _ _
  have h2 : ((w.alloc (.map #[] 0)).alloc (.map #[] 0)).ownsMap Tryz.prog 9 (elemR []) (w.heap.size + 1) 0 (.map []) := by
    have := World.ownsMap_made (w.alloc (.map #[] 0)) Tryz.prog 9 (elemR []); simpa using this
  refine ⟨⟨w.heap.size, w.heap.size + 1, [], [], .slice none 0 0, []⟩, rfl, ⟨?_, ?_, ?_, by simp, by simp, rfl, rfl, fun i hi => absurd hi (by simp [Drv.new]), fun i hi => absurd hi (by simp [Drv.new]), fun i j hi => absurd hi (by simp [Drv.new]), ?_, rfl, fun c hc => absurd hc (by simp [Drv.new]), fun i hi => absurd hi (by simp [Drv.new])⟩, ?_⟩
  · have := Blk.new ((w.alloc (.map #[] 0)).alloc (.map #[] 0)) 138 #[.int .i64 r, .int .i64 0, .map (some w.heap.size), .map (some (w.heap.size + 1)), .slice none 0 0]
    simpa [Drv.new] using this
  · exact .of ((h1.alloc _).alloc _)
  · exact .of (h2.alloc _)
  · exact World.ownsRow_nil _ _ _ _
  · rintro k (rfl | rfl | rfl | h | ⟨v, h, _⟩ | h | h)
    · omega
    · exact Nat.le_refl _
    · show _ ≤ w.heap.size + 1; omega
    · cases h
    · cases h
    · simp [Value.ownBlock] at h
    · cases h
theorem find_any (p : Nat) (S : Drv) (addr : List Nat) (F : Nat → Prop) (s : ByteArray) (w : World) (hs : s.size ≤ maxLen) (hd : DrA w p S addr F) :
    Calls Tryz.prog 67 #[.pointer (some ⟨p, 0, none⟩), .string s] w fun e w' =>
      e = .returned (.tuple #[ptrO addr (S.find s.data.toList).1, .int .i64 (S.find s.data.toList).2]) ∧ w = w' := by
  obtain ⟨L, rfl, hD, _⟩ := hd
  have hl := hD.now.lookup s hs
  have hc := hD.head.cell 2
  by_cases hn : named s.data.toList = true
  · cases hg : dget S.now s.data.toList with
    | none =>
      have HF : Hid (S.find s.data.toList = (none, 110)) := by unfold Drv.find; rw [hn, hg]; exact rfl
      rw [hg] at hl
      simp only [ptrO] at hl
      rw [HF.out]
      clear hg
      go_enter Tryz.func67, Tryz.ntmps67
      go_wp2_with (go_at_call 66; refine (named_any _ _ hs).mono ?_; rintro e w' ⟨rfl, rfl⟩; rw [hn])
      go_ret2
      exact ⟨rfl, rfl⟩
    | some i =>
      have HF : Hid (S.find s.data.toList = (some i, 0)) := by unfold Drv.find; rw [hn, hg]; exact rfl
      rw [hg] at hl
      simp only [ptrO] at hl
      rw [HF.out]
      simp only [ptrO]
      clear hg
      go_enter Tryz.func67, Tryz.ntmps67
      go_wp2_with (go_at_call 66; refine (named_any _ _ hs).mono ?_; rintro e w' ⟨rfl, rfl⟩; rw [hn])
      go_ret2
      exact ⟨rfl, rfl⟩
  · have hn' : named s.data.toList = false := by simpa using hn
    have HF : Hid (S.find s.data.toList = (none, 91)) := by unfold Drv.find; rw [hn']; exact rfl
    rw [HF.out]
    simp only [ptrO]
    clear hn
    go_enter Tryz.func67, Tryz.ntmps67
    go_wp2_with (go_at_call 66; refine (named_any _ _ hs).mono ?_; rintro e w' ⟨rfl, rfl⟩; rw [hn'])
    go_ret2
    exact ⟨rfl, rfl⟩
end Go.Proofs.YtcbebefdbdppdaaGreat
