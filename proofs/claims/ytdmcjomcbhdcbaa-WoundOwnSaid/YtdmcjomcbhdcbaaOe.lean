/- WoundOwn: whose memory is whose: each block has an owner's number. No program walked. -/
import Derived.Test.YtdmcjomcbhdcbaaOc
import Derived.Test.YtdmcjomcbhdcbaaOd
namespace Go.Proofs.Ytdmcjomcbhdcbaa
open Go.RowKit Go.Maps
namespace Ow
/-- The blocks of one owner. -/
def Col (w : World) (c : Nat → Nat) (i : Nat) : Nat → Prop := fun k => c k = i ∧ k < w.heap.size
/-- From w to w' nothing of w has turned but blocks of owner i; the old numbers stand. -/
structure Stp (w w' : World) (c c' : Nat → Nat) (i : Nat) : Prop where
  touch : Touch (Col w c i) w w'
  same : ∀ k, k < w.heap.size → c' k = c k
def tint (w : World) (c : Nat → Nat) (j : Nat) : Nat → Nat := fun k => if k < w.heap.size then c k else j
theorem tint_old {w : World} {c : Nat → Nat} {j k : Nat} (h : k < w.heap.size) : tint w c j k = c k := if_pos h
theorem tint_new {w : World} {c : Nat → Nat} {j k : Nat} (h : w.heap.size ≤ k) : tint w c j k = j := if_neg (by omega)
/-- What was there ahead of the call is as it was. -/
structure Led (w0 w : World) (c : Nat → Nat) : Prop where
  below : Below w0.heap.size w0 w
  old : ∀ k, k < w0.heap.size → c k = 99
section
variable {w0 w w' : World} {c c' : Nat → Nat} {i j q p : Nat} {X Y : Wnd} {S T : Drv} {e : TypeId} {v : Value} {n : Nat} {xs : List Value}
theorem Led.step (h : Led w0 w c) (s : Stp w w' c c' i) (hi : i ≠ 99) : Led w0 w' c' :=
  ⟨h.below.trans (s.touch.below h.below.size fun k hk => by
    rcases Nat.lt_or_ge k w0.heap.size with h1 | h1
    · exact absurd ((h.old k h1).symm.trans hk.1) (Ne.symm hi)
    · exact h1), fun k hk => (s.same k (Nat.lt_of_lt_of_le hk h.below.size)).trans (h.old k hk)⟩
/-- A wound and its drive: owner 0. -/
def WDc (w : World) (c : Nat → Nat) (q p : Nat) (X : Wnd) (S : Drv) : Prop := WD w q p X S (Col w c 0)
theorem WDc.step (h : WDc w c q p X S) (s : Stp w w' c c' i) (hi : i ≠ 0) : WDc w' c' q p X S :=
  (WD.keep h s.touch fun _ hk hc => hi (hc.1.symm.trans hk.1)).mono fun k hk => ⟨(s.same k hk.2).trans hk.1, Nat.lt_of_lt_of_le hk.2 s.touch.size⟩
theorem row_step {k : Nat} (h : RowK w c k e v n xs) (s : Stp w w' c c' i) (hi : k ≠ i) : RowK w' c' k e v n xs :=
  h.keep (fun b hb => s.touch.block b (h.1.lt b hb).2 fun hc => hi ((h.2 b hb).symm.trans hc.1)) s.same
/-- A call on the wound. -/
theorem step_call (hd : WD w' q p Y T (grow (Col w c 0) w w')) (ht : Touch (Col w c 0) w w') : ∃ c', Stp w w' c c' 0 ∧ WDc w' c' q p Y T :=
  ⟨tint w c 0, ⟨ht, fun _ hk => tint_old hk⟩, hd.mono fun k hk => by
    rcases hk with hk | hk
    · exact ⟨(tint_old hk.2).trans hk.1, Nat.lt_of_lt_of_le hk.2 ht.size⟩
    · exact ⟨tint_new hk.1, hk.2⟩⟩
/-- A call that answers a row: the row has an owner of its own. -/
theorem step_read (j : Nat) (ho : w'.ownsRow w.heap.size e 1 v n xs) (hd : WD w' q p Y T (Col w c 0)) (ht : Touch (Col w c 0) w w') : ∃ c', Stp w w' c c' 0 ∧ WDc w' c' q p Y T ∧ RowK w' c' j e v n xs :=
  ⟨tint w c j, ⟨ht, fun _ hk => tint_old hk⟩, hd.mono fun k hk => ⟨(tint_old hk.2).trans hk.1, Nat.lt_of_lt_of_le hk.2 ht.size⟩, ownsRow_base_a ho (Nat.zero_le _), fun _ hk => tint_new (ho.lt _ hk).1⟩
/-- New memory alone. -/
theorem step_new (i j : Nat) (hb : Below w.heap.size w w') : ∃ c', Stp w w' c c' i ∧ ∀ k, w.heap.size ≤ k → c' k = j :=
  ⟨tint w c j, ⟨Touch.of_below hb, fun _ hk => tint_old hk⟩, fun _ hk => tint_new hk⟩
theorem row_new (ho : w'.ownsRow w.heap.size e 1 v n xs) (hj : ∀ k, w.heap.size ≤ k → c' k = j) : RowK w' c' j e v n xs :=
  ⟨ownsRow_base_a ho (Nat.zero_le _), fun k hk => hj k (ho.lt k hk).1⟩
theorem row_reads {a : Option Addr} {m k : Nat} (h : RowK w c k e (.slice a n m) n xs) : Reads w w.heap.size 1 a n xs := Reads.of_own h.1
theorem row_prefix {k m : Nat} {a : Option Addr} {d z : List UInt8} (h : RowK w c k e (.slice a m j) m ((d ++ z).map B8)) (hd : d.length = n) (hm : n ≤ m) : Reads w w.heap.size 1 a n (d.map B8) := by
  have h2 := (row_reads h).cutTo hm
  rwa [List.map_append, List.take_append_of_le_length (by rw [List.length_map]; omega), List.take_of_length_le (by rw [List.length_map]; omega)] at h2
theorem row_not {k g m : Nat} (h : RowK w c k e (.slice (some ⟨g, 0, none⟩) m j) n xs) (hk : k ≠ 0) : ∀ ad, some (⟨g, 0, none⟩ : Addr) = some ad → ¬ Col w c 0 ad.block := fun ad e1 hc => by
  have := Option.some.inj e1
  subst this
  exact hk ((h.2 g rfl).symm.trans hc.1)
/-- Nothing but the row's first k have become 99. -/
def Put99 (w0 w : World) (c : Nat → Nat) (g j n k : Nat) : Prop :=
  ∃ xs, RowK w c 1 5 (.slice (some ⟨g, 0, none⟩) n j) n xs ∧ (∀ i, i < k → xs[i]? = some (.int .u8 99)) ∧ Stp w0 w c c 1
theorem Put99.next {w1 : World} {g k : Nat} (h : Put99 w1 w c g j n k) (hk : k < n) : Put99 w1 (w.setCell ⟨g, k, none⟩ (.int .u8 99)) c g j n (k + 1) := by
  obtain ⟨xs, hr, hx, hs⟩ := h
  have hlen : xs.length = n := by have := hr.1.1; simpa using this
  refine ⟨xs.set k (.int .u8 99), hr.set_in k _, fun i hi => ?_, ⟨hs.touch.trans (Touch.setCell w _ _ ?_), hs.same⟩⟩
  · by_cases hik : i = k
    · subst hik
      exact List.getElem?_set_self (by omega)
    · rw [List.getElem?_set_ne (Ne.symm hik)]
      exact hx i (by omega)
  · by_cases hg : g < w1.heap.size
    · exact .inl ⟨hr.2 g rfl, hg⟩
    · exact .inr ⟨by show w1.heap.size ≤ g; omega, (hr.1.lt g rfl).2⟩
theorem Put99.reads {w1 : World} {g k : Nat} (h : Put99 w1 w c g j n n) (hk : k ≤ n) : Reads w w.heap.size 1 (some ⟨g, 0, none⟩) k ((List.replicate k (99 : UInt8)).map B8) := by
  obtain ⟨xs, hr, hx, _⟩ := h
  have hlen : xs.length = n := by have := hr.1.1; simpa using this
  have h2 := (row_reads hr).cutTo hk
  rwa [show xs.take k = (List.replicate k (99 : UInt8)).map B8 from List.ext_getElem? fun i => by
    by_cases hi : i < k
    · rw [List.getElem?_take_of_lt hi, hx i (by omega), List.getElem?_map, List.getElem?_replicate_of_lt hi]; rfl
    · rw [List.getElem?_eq_none (by rw [List.length_take]; omega), List.getElem?_eq_none (by rw [List.length_map, List.length_replicate]; omega)]] at h2
theorem Put99.start {g : Nat} (hr : RowK w c 1 5 (.slice (some ⟨g, 0, none⟩) n j) n xs) : Put99 w w c g j n 0 :=
  ⟨xs, hr, fun i hi => by omega, Touch.refl _ _, fun _ _ => rfl⟩
theorem Put99.cell {w1 : World} {g k : Nat} (h : Put99 w1 w c g j n k) {i : Nat} (hi : i < n) : ∃ u, w.cell? ⟨g, i, none⟩ = some u := by
  obtain ⟨xs, hr, _⟩ := h
  have hlen : xs.length = n := by have := hr.1.1; simpa using this
  exact ⟨xs[i], (hr.1.cellAt i (by omega)).trans (List.getElem?_eq_getElem (by omega))⟩
theorem Put99.frozen {w1 : World} {g k : Nat} (h : Put99 w1 w c g j n k) (i : Nat) : w.frozen? ⟨g, i, none⟩ = false := by
  obtain ⟨xs, hr, _⟩ := h
  exact hr.1.frozenAt i
theorem Put99.row {w1 : World} {g k : Nat} (h : Put99 w1 w c g j n k) : ∃ xs, RowK w c 1 5 (.slice (some ⟨g, 0, none⟩) n j) n xs := by
  obtain ⟨xs, hr, _⟩ := h
  exact ⟨xs, hr⟩
theorem Put99.stp {w1 : World} {g k : Nat} (h : Put99 w1 w c g j n k) : Stp w1 w c c 1 := by
  obtain ⟨xs, _, _, hs⟩ := h
  exact hs
theorem Put99.full {w1 : World} {g k : Nat} (h : Put99 w1 w c g j (n + k) (n + k)) : RowK w c 1 5 (.slice (some ⟨g, 0, none⟩) (n + k) j) (n + k) ((List.replicate n (99 : UInt8) ++ List.replicate k 99).map B8) := by
  obtain ⟨xs, hr, hx, _⟩ := h
  have hlen : xs.length = n + k := by have := hr.1.1; simpa using this
  rwa [show xs = (List.replicate n (99 : UInt8) ++ List.replicate k 99).map B8 from List.ext_getElem? fun i => by
    rw [List.replicate_append_replicate]
    by_cases hi : i < n + k
    · rw [hx i (by omega), List.getElem?_map, List.getElem?_replicate_of_lt hi]; rfl
    · rw [List.getElem?_eq_none (by omega), List.getElem?_eq_none (by rw [List.length_map, List.length_replicate]; omega)]] at hr
theorem conv_reads {B : Nat} {a : Option Addr} {bs : List UInt8} (h : Reads w B 1 a n (bs.map B8)) (hl : bs.length = n) (j : Nat) : (convert 22 9 (.slice a n j)).run Try.prog w = .ok (.string ⟨bs.toArray⟩) w := by
  subst hl
  exact conv_any w B a bs j h
theorem row_notA {k : Nat} {a : Option Addr} {m : Nat} (h : RowK w c k e (.slice a m j) n xs) (hk : k ≠ 0) : ∀ ad, a = some ad → ¬ Col w c 0 ad.block := by
  rcases h.1.2 with ⟨hv, _⟩ | ⟨g, cap, cur, hv, _⟩
  · injection hv with e1
    intro ad e2
    rw [e1] at e2
    cases e2
  · injection hv with e1
    intro ad e2 hc
    rw [e1] at e2
    have := Option.some.inj e2
    subst this
    exact hk ((h.2 g (by rw [e1]; rfl)).symm.trans hc.1)
/-- Some owners' blocks may have turned. -/
theorem step_set {F : Nat → Prop} (hl : Led w0 w c) (hw : WDc w c q p X S) (ht : Touch F w w') (hF : ∀ k, F k → c k ≠ 0 ∧ c k ≠ 99) : ∃ c', Led w0 w' c' ∧ WDc w' c' q p X S :=
  ⟨tint w c 7, ⟨hl.below.trans (ht.below hl.below.size fun k hk => by
    rcases Nat.lt_or_ge k w0.heap.size with h1 | h1
    · exact absurd (hl.old k h1) (hF k hk).2
    · exact h1), fun k hk => (tint_old (Nat.lt_of_lt_of_le hk hl.below.size)).trans (hl.old k hk)⟩,
   (WD.keep hw ht fun k hk hf => (hF k hf).1 hk.1).mono fun k hk => ⟨(tint_old hk.2).trans hk.1, Nat.lt_of_lt_of_le hk.2 ht.size⟩⟩
def nms (l : List Nm) : Said := { Said.none_ with names := l }
theorem said_names {base : Nat} {l : List Nm} (h : w.ownsRow base 9 1 v n (l.map strV)) (hl : l.length = n) : SaidAt w base (.agg #[.int .i64 0, .slice none 0 0, v, .slice none 0 0, .int .i64 0, .bool false]) (nms l) := by
  subst hl
  exact ⟨.slice none 0 0, v, .slice none 0 0, rfl, World.ownsRow_nil _ _ _ _, h, [], rfl, World.ownsRow_nil _ _ _ _, fun k f u hf => by simp [nms, Said.none_] at hf⟩
theorem recol {k i : Nat} (h : RowK w c (i + k) e v n xs) : RowK w (fun b => c b - i) k e v n xs :=
  ⟨h.1, fun b hb => by show c b - i = k; rw [h.2 b hb]; omega⟩
/-- The numbers as they are when all begins. -/
theorem begin_ {w2 : World} (hb2 : Below w0.heap.size w0 w2) (hd : WDb w2 w0.heap.size q p X S) (hb : Below w2.heap.size w2 w) : ∃ c, Led w0 w c ∧ WDc w c q p X S := by
  refine ⟨fun k => if k < w0.heap.size then 99 else if k < w2.heap.size then 0 else 7, ⟨hb2.trans (hb.mono hb2.size), fun k hk => if_pos hk⟩, (WD.below hd hb).mono fun k hk => ⟨?_, Nat.lt_of_lt_of_le hk.2 hb.size⟩⟩
  show (if k < w0.heap.size then 99 else if k < w2.heap.size then 0 else 7) = 0
  rw [if_neg (by have := hk.1; omega), if_pos hk.2]
end
end Ow
end Go.Proofs.Ytdmcjomcbhdcbaa
