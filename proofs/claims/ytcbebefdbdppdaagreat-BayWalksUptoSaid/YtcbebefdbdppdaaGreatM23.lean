/- A file written whole through a wound: what comes of it, whatever strikes. No program in sight.; What is done with a wound: Arm, Fuse; the builtin copy over elements of several cells.; What is done with a wound on its drive; a wound and its drive above a place of the memory. -/
import Derived.Test.YtcbebefdbdppdaaGreatM22
import Derived.Test.YtcbebefdbdppdaaGreatM10
import Derived.Test.YtcbebefdbdppdaaGreatM11
import Derived.Laws.CopyOwn
import Derived.Laws.MakeOwn
namespace Go.Proofs.YtcbebefdbdppdaaGreat
open Go.RowKit Go.Maps
theorem wcall_cases {X Y : Wnd} {S T : Drv} {may : Bool} {f : Drv × Int} {x : Int} (h : wcall X S may f = (Y, T, x)) : Y = (X.struck may).1 ∧ ((T = f.1 ∧ x = f.2 ∧ (X.struck may).2.1 = 0) ∨ (T = S ∧ x ≠ 0 ∧ x = (X.struck may).2.1)) := by
  unfold wcall at h
  split at h
  · rename_i h0
    injection h with h1 h; injection h with h2 h3
    exact ⟨h1.symm, .inl ⟨h2.symm, h3.symm, h0⟩⟩
  · rename_i h0
    injection h with h1 h; injection h with h2 h3
    exact ⟨h1.symm, .inr ⟨h2.symm, by rw [← h3]; exact h0, h3.symm⟩⟩
theorem wappend_cases {X Y : Wnd} {S T : Drv} {s : Nm} {bs : List UInt8} {x : Int} (h : wappend X S s bs = (Y, T, x)) : Y = (X.struck true).1 ∧ ((T = (S.append s bs).1 ∧ x = (S.append s bs).2 ∧ (X.struck true).2.1 = 0) ∨ (x ≠ 0 ∧ x = (X.struck true).2.1 ∧ (T = S ∨ ∃ cs, T = (S.append s cs).1))) := by
  unfold wappend at h
  split at h
  · rename_i h0
    injection h with h1 h; injection h with h2 h3
    exact ⟨h1.symm, .inl ⟨h2.symm, h3.symm, h0⟩⟩
  · rename_i h0
    split at h
    · injection h with h1 h; injection h with h2 h3
      exact ⟨h1.symm, .inr ⟨by rw [← h3]; exact h0, h3.symm, .inr ⟨_, h2.symm⟩⟩⟩
    · injection h with h1 h; injection h with h2 h3
      exact ⟨h1.symm, .inr ⟨by rw [← h3]; exact h0, h3.symm, .inl h2.symm⟩⟩
theorem struck_up {X : Wnd} (hd : X.down = false) (ha : X.away = false) (may : Bool) : (X.struck may).1.calls = X.calls + 1 ∧ (X.struck may).1.away = false ∧ ((X.struck may).2.1 = 0 → (X.struck may).1.down = false) := by
  unfold Wnd.struck
  rw [if_neg (by rw [hd]; decide), if_neg (by rw [ha]; decide)]
  split
  · exact ⟨rfl, ha, fun h => by cases h⟩
  · exact ⟨rfl, ha, fun _ => hd⟩
theorem struck_off {X : Wnd} (h : ¬(X.down = false ∧ X.away = false)) (may : Bool) : (X.struck may).1 = X ∧ (X.struck may).2.1 ≠ 0 := by
  unfold Wnd.struck
  cases hd : X.down with
  | true => rw [if_pos rfl]; exact ⟨rfl, show (122 : Int) ≠ 0 by decide⟩
  | false =>
    rw [if_neg (by decide)]
    cases ha : X.away with
    | true => rw [if_pos rfl]; exact ⟨rfl, show (121 : Int) ≠ 0 by decide⟩
    | false => exact absurd ⟨hd, ha⟩ h
structure AwSt (X0 : Wnd) (S0 : Drv) (P : Nm → Option (List UInt8) → Prop) (nm : Nm) (bs : List UInt8) (k : Nat) (X : Wnd) (S : Drv) : Prop where
  up : 0 < k → X.down = false ∧ X.away = false
  calls : X.calls = X0.calls + k
  holds : Holds S (fun s y => P s y ∨ 4 ≤ k ∧ s = nm ∧ y = some bs)
  others : ∀ s, s ≠ tmpN → s ≠ nm → S.shows s = S0.shows s
  low : k ≤ 3 → S.shows nm = S0.shows nm
  high : 4 ≤ k → S.shows nm = some bs
  fresh : 1 ≤ k → k ≤ 3 → ∃ i, Fresh S i ∧ (k = 1 → (S.body i).data = []) ∧ (2 ≤ k → (S.body i).data = bs) ∧ (k = 3 → (S.body i).safe = (S.body i).data.length)
structure AwEnd (X0 : Wnd) (S0 : Drv) (P : Nm → Option (List UInt8) → Prop) (nm : Nm) (bs : List UInt8) (Y : Wnd) (T : Drv) (x : Int) : Prop where
  holds : Holds T (fun s y => P s y ∨ s = nm ∧ y = some bs)
  others : ∀ s, s ≠ tmpN → s ≠ nm → T.shows s = S0.shows s
  cnt : ∃ n : Nat, n ≤ 5 ∧ Y.calls = X0.calls + n ∧ (n ≤ 4 → x ≠ 0 ∧ T.shows nm = S0.shows nm) ∧ (n = 5 → T.shows nm = some bs)
  ok : x = 0 → Holds T (fun s y => y = T.shows s) ∧ T.shows nm = some bs
  away : Y.away = X0.away
theorem awStep_law {X0 : Wnd} {S0 : Drv} {P : Nm → Option (List UInt8) → Prop} {nm : Nm} {bs : List UInt8} {k : Nat} {X Y : Wnd} {S T : Drv} {x : Int} (hn : named nm = true) (hnt : nm ≠ tmpN) (ht : Tidy S.now) (hk : k ≤ 4) (h : AwSt X0 S0 P nm bs k X S) (haw : X.away = X0.away)
    (hs : awStep nm bs (X, S) k = (Y, T, x)) : Y.away = X0.away ∧ (x = 0 → k ≤ 3 → AwSt X0 S0 P nm bs (k + 1) Y T) ∧ ((x ≠ 0 ∨ k = 4) → AwEnd X0 S0 P nm bs Y T x) := by
  have hY : ∀ may, Y = (X.struck may).1 → (x ≠ 0 ∨ (X.struck may).2.1 = 0) → Y.away = X0.away ∧ ((X.struck may).2.1 = 0 → Y.down = false ∧ Y.away = false ∧ Y.calls = X0.calls + (k + 1 : Nat)) ∧ ∃ n : Nat, n ≤ k + 1 ∧ Y.calls = X0.calls + n ∧ (n ≤ k → x ≠ 0 ∧ k ≤ 3) := by
    intro may e hx
    subst e
    by_cases hu : X.down = false ∧ X.away = false
    · obtain ⟨a, b, c⟩ := struck_up hu.1 hu.2 may
      have hc : (X.struck may).1.calls = X0.calls + (k + 1 : Nat) := by rw [a, h.calls]; omega
      exact ⟨by rw [b, ← haw, hu.2], fun h0 => ⟨c h0, b, hc⟩, k + 1, Nat.le_refl _, hc, fun hle => by omega⟩
    · obtain ⟨a, b⟩ := struck_off hu may
      have hk0 : k = 0 := by
        rcases Nat.eq_zero_or_pos k with e | e
        · exact e
        · exact absurd (h.up e) hu
      rw [a]
      refine ⟨haw, fun h0 => absurd h0 b, k, by omega, h.calls, fun _ => ⟨?_, by omega⟩⟩
      rcases hx with hx | hx
      · exact hx
      · exact absurd hx b
  have hup : ∀ {U : Drv}, Holds U (fun s y => P s y ∨ 4 ≤ k ∧ s = nm ∧ y = some bs) → Holds U (fun s y => P s y ∨ s = nm ∧ y = some bs) := fun hu => hu.mono fun s y _ hy => by
    rcases hy with hy | ⟨_, hy⟩
    · exact .inl hy
    · exact .inr hy
  have bad : ∀ may, Y = (X.struck may).1 → x ≠ 0 → Holds T (fun s y => P s y ∨ 4 ≤ k ∧ s = nm ∧ y = some bs) → (∀ s, s ≠ tmpN → T.shows s = S.shows s) → k ≤ 3 → AwEnd X0 S0 P nm bs Y T x := by
    intro may e hx hH hsh hk3
    obtain ⟨a, _, n, hn1, hn2, _⟩ := hY may e (.inl hx)
    exact ⟨hup hH, fun s h1 h2 => (hsh s h1).trans (h.others s h1 h2), ⟨n, by omega, hn2, fun _ => ⟨hx, (hsh nm hnt).trans (h.low hk3)⟩, fun e => by omega⟩, fun e => absurd e hx, a⟩
  rcases (show k = 0 ∨ k = 1 ∨ k = 2 ∨ k = 3 ∨ k = 4 by omega) with rfl | rfl | rfl | rfl | rfl
  · obtain ⟨e, hc⟩ := wcall_cases (show wcall X S true (S.create tmpN) = (Y, T, x) from hs)
    by_cases hx : x = 0
    · rcases hc with ⟨e1, e2, h0⟩ | ⟨_, hx2, _⟩
      · obtain ⟨a, b, _⟩ := hY true e (.inr h0)
        obtain ⟨b1, b2, b3⟩ := b h0
        obtain ⟨c1, c2, c3, c4⟩ := h.holds.create ht (T := T) (by rw [Prod.ext_iff]; exact ⟨e1.symm, by rw [← e2, hx]⟩)
        exact ⟨a, fun _ _ => ⟨fun _ => ⟨b1, b2⟩, b3, c1.mono fun s y _ hy => hy.imp id fun ⟨h1, h2⟩ => absurd h1 (by omega), fun s h1 h2 => (c4 s h1).trans (h.others s h1 h2), fun _ => (c4 nm hnt).trans (h.low (by omega)), fun h1 => absurd h1 (by omega), fun _ _ => ⟨_, c2, fun _ => c3, fun h1 => absurd h1 (by omega), fun h1 => absurd h1 (by omega)⟩⟩, fun h1 => by rcases h1 with h1 | h1; exact absurd hx h1; omega⟩
      · exact absurd hx hx2
    · have hT : T = S := by
        rcases hc with ⟨e1, e2, _⟩ | ⟨e1, _⟩
        · exact create_no (s := tmpN) (S := S) (x := x) (by rw [Prod.ext_iff]; exact ⟨e1.symm, e2.symm⟩) hx
        · exact e1
      subst hT
      exact ⟨(hY true e (.inl hx)).1, fun e' => absurd e' hx, fun _ => bad true e hx h.holds (fun _ _ => rfl) (by omega)⟩
  · obtain ⟨i, hf, hd, _⟩ := h.fresh (by omega) (by omega)
    obtain ⟨e, hc⟩ := wappend_cases (show wappend X S tmpN bs = (Y, T, x) from hs)
    by_cases hx : x = 0
    · rcases hc with ⟨e1, e2, h0⟩ | ⟨hx2, _⟩
      · obtain ⟨a, b, _⟩ := hY true e (.inr h0)
        obtain ⟨b1, b2, b3⟩ := b h0
        obtain ⟨c1, c2, c3, c4⟩ := h.holds.append hf bs (T := T) (x := x) (by rw [Prod.ext_iff]; exact ⟨e1.symm, e2.symm⟩)
        exact ⟨a, fun _ _ => ⟨fun _ => ⟨b1, b2⟩, b3, c1.mono fun s y _ hy => hy.imp id fun ⟨h1, h2⟩ => absurd h1 (by omega), fun s h1 h2 => (c4 s h1).trans (h.others s h1 h2), fun _ => (c4 nm hnt).trans (h.low (by omega)), fun h1 => absurd h1 (by omega), fun _ _ => ⟨_, c2, fun h1 => absurd h1 (by omega), fun _ => by rw [c3 hx, hd rfl, List.nil_append], fun h1 => absurd h1 (by omega)⟩⟩, fun h1 => by rcases h1 with h1 | h1; exact absurd hx h1; omega⟩
      · exact absurd hx hx2
    · have hT : Holds T (fun s y => P s y ∨ 4 ≤ 1 ∧ s = nm ∧ y = some bs) ∧ ∀ s, s ≠ tmpN → T.shows s = S.shows s := by
        have ap : ∀ cs, T = (S.append tmpN cs).1 → Holds T (fun s y => P s y ∨ 4 ≤ 1 ∧ s = nm ∧ y = some bs) ∧ ∀ s, s ≠ tmpN → T.shows s = S.shows s := fun cs e1 => by
          obtain ⟨c1, _, _, c4⟩ := h.holds.append hf cs (T := T) (x := (S.append tmpN cs).2) (by rw [e1])
          exact ⟨c1, c4⟩
        rcases hc with ⟨e1, _, _⟩ | ⟨_, _, e1 | ⟨cs, e1⟩⟩
        · exact ap bs e1
        · rw [e1]; exact ⟨h.holds, fun _ _ => rfl⟩
        · exact ap cs e1
      exact ⟨(hY true e (.inl hx)).1, fun e' => absurd e' hx, fun _ => bad true e hx hT.1 hT.2 (by omega)⟩
  · obtain ⟨i, hf, _, hd, _⟩ := h.fresh (by omega) (by omega)
    obtain ⟨e, hc⟩ := wcall_cases (show wcall X S false (S.sync tmpN) = (Y, T, x) from hs)
    rcases hc with ⟨e1, e2, h0⟩ | ⟨e1, hx2, _⟩
    · obtain ⟨c1, c2, c0, c3, c4, c5⟩ := h.holds.sync hf (T := T) (x := x) (by rw [Prod.ext_iff]; exact ⟨e1.symm, e2.symm⟩)
      obtain ⟨a, b, _⟩ := hY false e (.inr h0)
      obtain ⟨b1, b2, b3⟩ := b h0
      exact ⟨a, fun _ _ => ⟨fun _ => ⟨b1, b2⟩, b3, c1.mono fun s y _ hy => hy.imp id fun ⟨h1, h2⟩ => absurd h1 (by omega), fun s h1 h2 => (c5 s h1).trans (h.others s h1 h2), fun _ => (c5 nm hnt).trans (h.low (by omega)), fun h1 => absurd h1 (by omega), fun _ _ => ⟨_, c2, fun h1 => absurd h1 (by omega), fun _ => by rw [c3, hd (by omega)], fun _ => c4⟩⟩, fun h1 => by rcases h1 with h1 | h1; exact absurd c0 h1; omega⟩
    · subst e1
      exact ⟨(hY false e (.inl hx2)).1, fun e' => absurd e' hx2, fun _ => bad false e hx2 h.holds (fun _ _ => rfl) (by omega)⟩
  · obtain ⟨i, hf, _, hd, hw⟩ := h.fresh (by omega) (by omega)
    obtain ⟨e, hc⟩ := wcall_cases (show wcall X S false (S.rename tmpN nm) = (Y, T, x) from hs)
    rcases hc with ⟨e1, e2, h0⟩ | ⟨e1, hx2, _⟩
    · obtain ⟨c0, c1, c2, c3⟩ := h.holds.rename ht hf nm hn hnt (hw rfl) (T := T) (x := x) (by rw [Prod.ext_iff]; exact ⟨e1.symm, e2.symm⟩)
      obtain ⟨a, b, _⟩ := hY false e (.inr h0)
      obtain ⟨b1, b2, b3⟩ := b h0
      rw [hd (by omega)] at c1 c2
      exact ⟨a, fun _ _ => ⟨fun _ => ⟨b1, b2⟩, b3, c1.mono fun s y _ hy => by
        rcases hy with (hy | hy) | hy
        · exact .inl hy
        · exact absurd hy.1 (by omega)
        · exact .inr ⟨by omega, hy⟩, fun s h1 h2 => (c3 s h1 h2).trans (h.others s h1 h2), fun h1 => absurd h1 (by omega), fun _ => c2, fun _ h1 => absurd h1 (by omega)⟩, fun h1 => by rcases h1 with h1 | h1; exact absurd c0 h1; omega⟩
    · subst e1
      exact ⟨(hY false e (.inl hx2)).1, fun e' => absurd e' hx2, fun _ => bad false e hx2 h.holds (fun _ _ => rfl) (by omega)⟩
  · obtain ⟨e, hc⟩ := wcall_cases (show wcall X S false (S.syncDir, 0) = (Y, T, x) from hs)
    have hyy : x ≠ 0 ∨ (X.struck false).2.1 = 0 := by
      rcases hc with ⟨_, _, h0⟩ | ⟨_, hx2, _⟩
      · exact .inr h0
      · exact .inl hx2
    obtain ⟨a, _, n, hn1, hn2, hn3⟩ := hY false e hyy
    have hn5 : n = 5 := by
      rcases Nat.lt_or_ge n 5 with h1 | h1
      · have := (hn3 (by omega)).2; omega
      · omega
    subst hn5
    refine ⟨a, fun _ h1 => absurd h1 (by omega), fun _ => ?_⟩
    rcases hc with ⟨e1, e2, h0⟩ | ⟨e1, hx2, _⟩
    · have e1' : T = S.syncDir := e1
      subst e1'
      have hH := h.holds.syncDir
      have hsh : ∀ s, S.syncDir.shows s = S.shows s := fun s => rfl
      exact ⟨hup (hH.mono fun s y _ hy => hy.1), fun s h1 h2 => h.others s h1 h2, ⟨5, Nat.le_refl _, hn2, fun h1 => absurd h1 (by omega), fun _ => h.high (by omega)⟩, fun _ => ⟨hH.mono fun s y _ hy => hy.2, h.high (by omega)⟩, a⟩
    · subst e1
      exact ⟨hup h.holds, h.others, ⟨5, Nat.le_refl _, hn2, fun h1 => absurd h1 (by omega), fun _ => h.high (by omega)⟩, fun e' => absurd e' hx2, a⟩
theorem awFrom_law {X0 : Wnd} {S0 : Drv} {P : Nm → Option (List UInt8) → Prop} {nm : Nm} {bs : List UInt8} (hn : named nm = true) (hnt : nm ≠ tmpN) {r : Nat} : ∀ (n k : Nat) (X : Wnd) (S : Drv) (c N : Nat), n + k = 5 → 0 < n → Kept X S c N r → (N + n) ≤ 1073741824 → X.away = X0.away → AwSt X0 S0 P nm bs k X S →
    AwEnd X0 S0 P nm bs (awFrom nm bs n k (X, S)).1 (awFrom nm bs n k (X, S)).2.1 (awFrom nm bs n k (X, S)).2.2
  | 0, _, _, _, _, _, _, h0, _, _, _, _ => absurd h0 (by omega)
  | n + 1, k, X, S, c, N, hnk, _, hK, hr, haw, h => by
    have h1 : (N + 1) ≤ 1073741824 := by omega
    have hks := awStep_kept (Z := (X, S)) hK nm bs k h1
    obtain ⟨Y, T, x, hy⟩ : ∃ Y T x, awStep nm bs (X, S) k = (Y, T, x) := ⟨_, _, _, rfl⟩
    obtain ⟨a, b, d⟩ := awStep_law hn hnt hK.drv.tnow (by omega) h haw hy
    rw [hy] at hks
    unfold awFrom
    rw [hy]
    by_cases hx : x = 0
    · rw [if_pos hx]
      by_cases hk4 : k = 4
      · have hn0 : n = 0 := by omega
        subst hn0
        have := d (.inr hk4)
        rw [hx] at this
        exact this
      · exact awFrom_law hn hnt n (k + 1) Y T (c + 1) (N + 1) (by omega) (by omega) hks (by omega) a (b hx (by omega))
    · rw [if_neg hx]
      exact d (.inl hx)
theorem awrite_law {X Y : Wnd} {S T : Drv} {P : Nm → Option (List UInt8) → Prop} {nm : Nm} {bs : List UInt8} {x : Int} {c N r : Nat} (hn : named nm = true) (hnt : nm ≠ tmpN) (hK : Kept X S c N r) (hr : (N + 5) ≤ 1073741824) (h : Holds S P) (hy : awrite X S nm bs = (Y, T, x)) :
    AwEnd X S P nm bs Y T x := by
  have := awFrom_law (P := P) (bs := bs) hn hnt 5 0 X S c N rfl (by omega) hK (by omega) rfl ⟨fun h => absurd h (by omega), by simp, h.mono fun s y _ hy => .inl hy, fun _ _ _ => rfl, fun _ => rfl, fun h => absurd h (by omega), fun h => absurd h (by omega)⟩
  have e : awFrom nm bs 5 0 (X, S) = (Y, T, x) := hy
  rw [e] at this
  exact this
end Go.Proofs.YtcbebefdbdppdaaGreat
namespace Go.Proofs.YtcbebefdbdppdaaGreat
open Go.RowKit Go.Maps
theorem Touch.more {G : Nat → Prop} {a b : World} (h : Touch G a b) (o : Obj) : Touch G a (b.alloc o) :=
  ⟨h.os, h.tape, h.output, by have := h.size; rw [alloc_size]; omega, fun k hk hn => (Below.heap_alloc b o k (Nat.lt_of_lt_of_le hk h.size)).trans (h.block k hk hn)⟩
section
variable {P : Program} (w : World)
theorem run_copy_wide (dT sT ty elem : TypeId) (size : Nat) (g dLen dCap : Nat) (a : Addr) (sLen sCap : Nat) (cur : Array Value) (t : TypeId) (cs : List Value)
    (hu : P.underlying dT = some (.slice elem)) (hs : (P.info? elem).map (·.size) = some size)
    (hg : w.heap[g]? = some (.cells cur t (0, 0))) (hn : cs.length = Nat.min sLen dLen * size)
    (hsrc : ∀ j v, cs[j]? = some v → w.cell? (a.add j) = some v) (hfit : cs.length = cur.size) (h1 : ∀ v ∈ cs, v.oneCell' = true) :
    (Builtin.copy_ #[dT, sT] ty #[.slice (some ⟨g, 0, none⟩) dLen dCap, .slice (some a) sLen sCap]).run P w = .ok (goInt (Nat.min sLen dLen)) (w.setRow g cs.toArray) := by
  have hl := run_loadCells_list (P := P) w a cs hsrc
  have hst := run_storeCells_at P g 0 t cs 0 cur w hg (by simp; omega) h1
  have hd : cur.toList.drop cs.length = [] := List.drop_of_length_le (by simp; omega)
  simp only [Nat.zero_add, List.take_zero, List.nil_append, hd, List.append_nil] at hst
  cases hq : P.info? elem with
  | none => simp [hq] at hs
  | some i =>
    have hi : i.size = size := by simpa [hq] using hs
    simp [Builtin.copy_, run_underlying hu, Builtin.lenOf, Builtin.firstCells, sizeOf, typeInfo, hq, hi, ← hn, hl, hst]
end
theorem faultInfo : (Tryz.prog.info? 214).map (fun i => (i.zero, i.size, i.bytes)) = some (some (.agg #[.int .i64 0, .int .i64 0]), 2, 16) := by kernel_rfl
theorem faultSize : (Tryz.prog.info? 214).map (·.size) = some 2 := by kernel_rfl
theorem planCells_length (l : List (Int × Int)) : (planCells l).length = l.length * 2 := by
  induction l with
  | nil => rfl
  | cons x r ih =>
    have e : planCells (x :: r) = [.int .i64 x.1, .int .i64 x.2] ++ planCells r := rfl
    rw [e, List.length_append, ih, List.length_cons]; simp; omega
theorem planCells_one (l : List (Int × Int)) : ∀ v ∈ planCells l, v.oneCell' = true := by
  intro v hv
  obtain ⟨f, _, hf⟩ := List.mem_flatMap.1 hv
  simp at hf
  rcases hf with rfl | rfl <;> rfl
theorem copy_plan (W : World) (g n c B : Nat) (A : Option Addr) (l : List (Int × Int)) (cur : Array Value) (hb : Blk W g 214 cur) (hs : cur.size = n * 2) (hr : Reads W B 2 A n (planCells l)) (hl : l.length = n) :
    ∃ W2, (Builtin.copy_ #[52, 52] 3 #[.slice (some ⟨g, 0, none⟩) n n, .slice A n c]).run Tryz.prog W = .ok (goInt n) W2 ∧ Blk W2 g 214 (planCells l).toArray ∧ Touch (· = g) W W2 ∧ W2.heap.size = W.heap.size := by
  have hpl : (planCells l).length = n * 2 := by rw [planCells_length, hl]
  cases A with
  | none =>
    have hn : n = 0 := by
      rcases Nat.eq_zero_or_pos n with h | h
      · exact h
      · obtain ⟨ad, e, _⟩ := hr.2 h; cases e
    subst hn
    have hll : l = [] := List.eq_nil_of_length_eq_zero hl
    subst hll
    have hcur : cur = #[] := Array.eq_empty_of_size_eq_zero (by omega)
    subst hcur
    refine ⟨W, ?_, hb, Touch.refl _ _, rfl⟩
    obtain ⟨i, hi, _, hz1, _⟩ := info_parts faultInfo
    simp [Builtin.copy_, run_underlying Tryz.underlying52, Builtin.lenOf, Builtin.firstCells, sizeOf, typeInfo, hi, storeCells]
  | some ad =>
    refine ⟨_, ?_, setRow_heap W g cur _ _ _ hb, ⟨rfl, rfl, rfl, by simp [World.setRow], fun k _ hk => setRow_other W g k _ hk⟩, by simp [World.setRow]⟩
    have hsrc : ∀ j v, (planCells l)[j]? = some v → W.cell? (ad.add j) = some v := by
      intro j v hj
      rcases Nat.eq_zero_or_pos n with h | h
      · have : planCells l = [] := List.eq_nil_of_length_eq_zero (by omega)
        rw [this] at hj; simp at hj
      · obtain ⟨ad', e, _, hc⟩ := hr.2 h
        injection e with e; subst e; exact hc j v hj
    have := run_copy_wide (P := Tryz.prog) W 52 52 3 214 2 g n n ad n c cur 214 (planCells l) Tryz.underlying52 faultSize hb (by rw [hpl, show Nat.min n n = n from Nat.min_self n]) hsrc (by omega) (planCells_one l)
    rwa [show Nat.min n n = n from Nat.min_self n] at this
set_option maxRecDepth 100000 in
set_option maxHeartbeats 1000000 in
theorem arm_any (q : Nat) (dv : Value) (X : Wnd) (F : Nat → Prop) (A : Option Addr) (n c : Nat) (l : List (Int × Int)) (w : World) (h : Wn w q dv X F) (hr : Reads w w.heap.size 2 A n (planCells l)) (hA : 0 < n → ∀ ad, A = some ad → ¬F ad.block) (hn : n * 16 ≤ 140737488351232) :
    Calls Tryz.prog 34 #[.pointer (some ⟨q, 0, none⟩), .slice A n c] w fun e w' =>
      e = .returned (.tuple #[]) ∧ Wn w' q dv (X.arm l) (grow F w w') ∧ Touch F w w' := by
  obtain ⟨pv, fq, h, hF0⟩ := h
  have hl : l.length = n := by have := hr.1; rw [planCells_length] at this; omega
  obtain ⟨i, hi, hz0, hz1, hz2⟩ := info_parts faultInfo
  have hmk := fun (W : World) => run_make (P := Tryz.prog) W 52 214 i _ Tryz.underlying52 hi hz0 .i64 .i64 (n : Int) (n : Int) (by omega) (Int.le_refl _) (by rw [hz2]; omega) (by omega)
  simp only [Int.toNat_natCast, hz1] at hmk
  have hql := h.head.lt
  obtain ⟨W1, hW1⟩ : ∃ W1, W1 = (w.setCell ⟨q, 3, none⟩ (.slice (some ⟨w.heap.size, 0, none⟩) n n)).alloc (.cells (madeCells #[.int .i64 0, .int .i64 0] (n * 2)) 214) := ⟨_, rfl⟩
  have hqh : q ≠ w.heap.size := Nat.ne_of_lt hql
  have hBh : Blk W1 w.heap.size 214 (madeCells #[.int .i64 0, .int .i64 0] (n * 2)) := by
    rw [hW1]
    have := Blk.new (w.setCell ⟨q, 3, none⟩ (.slice (some ⟨w.heap.size, 0, none⟩) n n)) 214 (madeCells #[.int .i64 0, .int .i64 0] (n * 2))
    rwa [size_set] at this
  have hT1 : Touch (· = q) w W1 := by rw [hW1]; exact ((Touch.refl (· = q) w).set (p := ⟨q, 3, none⟩) rfl _).more _
  have hs1 : W1.heap.size = w.heap.size + 1 := by rw [hW1, alloc_size, size_set]
  have hq1 : Blk W1 q 55 #[dv, .bool X.down, .bool X.away, .slice (some ⟨w.heap.size, 0, none⟩) n n, .int .i64 X.calls, .int .i64 X.round, fuseV fq] := by
    rw [hW1]; exact (h.head.set_ 3 _).alloc _
  have hFq : F q := hF0 q (.inl rfl)
  have hR1 : Reads W1 w.heap.size 2 A n (planCells l) := ⟨hr.1, fun h0 => by
    obtain ⟨ad, e, hb, hc⟩ := hr.2 h0
    refine ⟨ad, e, hb, fun j u hu => ?_⟩
    rw [← hc j u hu]
    exact World.cell?_of_block (hT1.block _ (by rw [block_of_add]; exact hb) (by rw [block_of_add]; intro e'; exact hA h0 ad e (by rw [e']; exact hFq)))⟩
  obtain ⟨W2, hrun, hBh2, hT2, hs2⟩ := copy_plan W1 w.heap.size n c _ A l _ hBh (size_madeCells _ _) hR1 hl
  rw [hW1] at hrun
  have hq2 : Blk W2 q 55 #[dv, .bool X.down, .bool X.away, .slice (some ⟨w.heap.size, 0, none⟩) n n, .int .i64 X.calls, .int .i64 X.round, fuseV fq] := (hT2.block q (by omega) hqh).trans hq1
  have h3 : w.cell? ⟨q, 3, none⟩ = some pv := h.head.cell 3
  have h3f : w.frozen? ⟨q, 3, none⟩ = false := h.head.frozen 3
  have h4 : W2.cell? ⟨q, 4, none⟩ = some (.int .i64 X.calls) := hq2.cell 4
  have h4f : W2.frozen? ⟨q, 4, none⟩ = false := hq2.frozen 4
  have HT : Hid (Touch F w W2) := Lib.hid ((hT1.mono fun k _ hk => by rw [hk]; exact hFq).trans (hT2.mono fun k _ hk => by subst hk; exact .inr ⟨Nat.le_refl _, by omega⟩))
  have HN : Hid (Wn (W2.setCell ⟨q, 4, none⟩ (.int .i64 0)) q dv (X.arm l) (grow F w W2)) := Lib.hid (by
    have hfar : ∀ k, k ≠ q → k ≠ w.heap.size → k < w.heap.size → (W2.setCell ⟨q, 4, none⟩ (.int .i64 0)).heap[k]? = w.heap[k]? := fun k h1 h2 h3 =>
      (Below.heap_setCell _ _ _ k h1).trans ((hT2.block k (by omega) h2).trans (hT1.block k h3 h1))
    refine ⟨.slice (some ⟨w.heap.size, 0, none⟩) n n, fq, ⟨hq2.set_ 4 _, ?_, h.none_, fun b e => ?_⟩, ?_⟩
    · have e : (X.arm l).plan = l := rfl
      rw [e, hl]
      refine ⟨by rw [planCells_length, hl], .inr ⟨w.heap.size, n, _, rfl, Nat.zero_le _, hBh2.far (p := ⟨q, 4, none⟩) (Ne.symm hqh) _, Nat.le_refl _, by unfold maxLen; omega, by simp [planCells_length, hl], ?_⟩⟩
      rw [List.take_of_length_le (by simp [planCells_length, hl])]
    · obtain ⟨f, hf, hb⟩ := h.some_ b e
      have hbl := hb.lt
      exact ⟨f, hf, (hfar b (hb.ne_ h.head (by decide)) (by omega) hbl).trans hb⟩
    · rintro k (hk | hk | hk)
      · exact .inl (hF0 k (.inl hk))
      · injection hk with hk; subst hk; exact .inr ⟨Nat.le_refl _, by show w.heap.size < W2.heap.size; omega⟩
      · exact .inl (hF0 k (.inr (.inr hk))))
  have HFQ := Lib.hid hFq
  clear hi hz0 hz1 hz2 h hr hl hF0 hA hW1 hBh hT1 hs1 hq1 hFq hR1 hBh2 hT2 hs2 hq2
  go_enter Tryz.func34, Tryz.ntmps34
  go_wp2
  go_end0
  refine ⟨rfl, HN.out.mono fun k hk => ?_, HT.out.set HFQ.out _⟩
  rcases hk with hk | hk
  · exact .inl hk
  · exact .inr ⟨hk.1, by rw [size_set]; exact hk.2⟩
theorem fuse_any (q : Nat) (dv : Value) (X : Wnd) (F : Nat → Prop) (r k i : Int) (w : World) (h : Wn w q dv X F) :
    Calls Tryz.prog 35 #[.pointer (some ⟨q, 0, none⟩), .int .i64 r, .int .i64 k, .int .i64 i] w fun e w' =>
      e = .returned (.tuple #[]) ∧ Wn w' q dv (X.setFuse r k i) (grow F w w') ∧ Touch F w w' := by
  obtain ⟨pv, fq, h, hF⟩ := h
  have h6 : w.cell? ⟨q, 6, none⟩ = some (fuseV fq) := h.head.cell 6
  have h6f : w.frozen? ⟨q, 6, none⟩ = false := h.head.frozen 6
  have hq : F q := hF q (.inl rfl)
  have hql := h.head.lt
  have HA := Lib.hid h
  have HF := Lib.hid hF
  clear h hF
  by_cases hr : 0 ≤ r
  · have HR : Hid (X.setFuse r k i = { X with fuse := some ⟨r, k, i⟩ }) := Lib.hid (by unfold Wnd.setFuse; rw [if_pos hr])
    rw [HR.out]
    go_enter Tryz.func35, Tryz.ntmps35
    go_wp2
    go_end0
    have hT : Touch F w (((w.setCell ⟨q, 6, none⟩ (.pointer none)).setCell ⟨q, 6, none⟩ (.pointer (some ⟨w.heap.size, 0, none⟩))).alloc (.cells #[.int .i64 r, .int .i64 k, .int .i64 i] 178)) := (((Touch.refl _ _).set hq _).set hq _).more _
    refine ⟨rfl, ⟨pv, some w.heap.size, ⟨?_, ?_, fun e => (by cases e), fun b e => ?_⟩, ?_⟩, hT⟩
    · exact ((HA.out.head.set_ 6 (.pointer none)).set_ 6 (.pointer (some ⟨w.heap.size, 0, none⟩))).alloc _
    · refine ownsRow_keep HA.out.plan fun k hk => ?_
      have hkl := (HA.out.plan.lt k hk).2
      have hkq : k ≠ q := fun e => own_blk_ne HA.out.plan HA.out.head (by decide) (by rw [hk, e])
      exact (Below.heap_alloc _ _ k (by rw [size_set, size_set]; exact hkl)).trans ((Below.heap_setCell _ _ _ k hkq).trans (Below.heap_setCell _ _ _ k hkq))
    · injection e with e; subst e
      refine ⟨_, rfl, ?_⟩
      have := Blk.new ((w.setCell ⟨q, 6, none⟩ (.pointer none)).setCell ⟨q, 6, none⟩ (.pointer (some ⟨w.heap.size, 0, none⟩))) 178 #[.int .i64 r, .int .i64 k, .int .i64 i]
      rwa [size_set, size_set] at this
    · rintro j (hj | hj | hj)
      · exact .inl (HF.out j (.inl hj))
      · exact .inl (HF.out j (.inr (.inl hj)))
      · injection hj with hj; subst hj
        exact .inr ⟨Nat.le_refl _, by rw [alloc_size, size_set, size_set]; omega⟩
  · have HR : Hid (X.setFuse r k i = { X with fuse := none }) := Lib.hid (by unfold Wnd.setFuse; rw [if_neg hr])
    rw [HR.out]
    have hr' : r < 0 := by omega
    go_enter Tryz.func35, Tryz.ntmps35
    go_wp2
    go_end0
    refine ⟨rfl, ⟨pv, none, HA.out.unfuse, fun k hk => .inl ?_⟩, Touch.setCell _ _ _ hq⟩
    rcases hk with hk | hk | hk
    · exact HF.out k (.inl hk)
    · exact HF.out k (.inr (.inl hk))
    · cases hk
end Go.Proofs.YtcbebefdbdppdaaGreat
namespace Go.Proofs.YtcbebefdbdppdaaGreat
open Go.RowKit Go.Maps
theorem WD.below {w W : World} {q p : Nat} {X : Wnd} {S : Drv} {F : Nat → Prop} (h : WD w q p X S F) (hb : Below w.heap.size w W) : WD W q p X S F :=
  h.keep (Touch.of_below (F := fun _ => False) hb) fun _ _ h => h
theorem dr_lt {w : World} {p : Nat} {S : Drv} {F : Nat → Prop} (h : Dr w p S F) : Dr w p S fun k => F k ∧ k < w.heap.size := by
  obtain ⟨addr, L, e, hD, hF⟩ := h
  exact ⟨addr, L, e, hD, fun k hk => ⟨hF k hk, hD.foot_lt hk⟩⟩
section
variable {w w1 : World} {q p : Nat} {X Y : Wnd} {S T : Drv} {F FW FD : Nat → Prop}
theorem control_end (h : Apart w q p X S FW FD) (hF : ∀ k, FW k ∨ FD k → F k) (hw : Wn w1 q (.pointer (some ⟨p, 0, none⟩)) Y (grow FW w w1)) (ht : Touch FW w w1) :
    WD w1 q p Y S (grow F w w1) ∧ Touch F w w1 := by
  refine ⟨⟨grow FW w w1, FD, ⟨hw, h.dr.keep ht fun k hd hw => h.no k hw hd, fun k hk => ?_, fun k hk => Nat.lt_of_lt_of_le (h.dlt k hk) ht.size, fun k hk hd => ?_⟩, fun k hk => ?_⟩, ht.mono fun k _ hk => hF k (.inl hk)⟩
  · rcases hk with hk | hk
    · exact Nat.lt_of_lt_of_le (h.wlt k hk) ht.size
    · exact hk.2
  · rcases hk with hk | hk
    · exact h.no k hk hd
    · have := h.dlt k hd; omega
  · rcases hk with (hk | hk) | hk
    · exact .inl (hF k (.inl hk))
    · exact .inr hk
    · exact .inl (hF k (.inr hk))
theorem WD.wn (h : WD w q p X S F) : Wn w q (.pointer (some ⟨p, 0, none⟩)) X F := by
  obtain ⟨FW, FD, h, hF⟩ := h
  exact h.wn.mono fun k hk => hF k (.inl hk)
theorem WD.dr (h : WD w q p X S F) : Dr w p S F := by
  obtain ⟨FW, FD, h, hF⟩ := h
  exact h.dr.mono fun k hk => hF k (.inr hk)
theorem WD.lt (h : WD w q p X S F) : WD w q p X S fun k => F k ∧ k < w.heap.size := by
  obtain ⟨FW, FD, h, hF⟩ := h
  refine ⟨FW, FD, h, fun k hk => ⟨hF k hk, ?_⟩⟩
  rcases hk with hk | hk
  · exact h.wlt k hk
  · exact h.dlt k hk
end
theorem woffline_any (q p : Nat) (X : Wnd) (S : Drv) (F : Nat → Prop) (off : Bool) (w : World) (h : WD w q p X S F) :
    Calls Tryz.prog 36 #[.pointer (some ⟨q, 0, none⟩), .bool off] w fun e w' => e = .returned (.tuple #[]) ∧ WD w' q p { X with away := off } S (grow F w w') ∧ Touch F w w' := by
  obtain ⟨FW, FD, hA, hF⟩ := h
  refine (offline_any q _ X FW off w hA.wn).mono ?_
  rintro e w' ⟨he, hw, ht⟩
  exact ⟨he, control_end hA hF (hw.mono fun k hk => .inl hk) ht⟩
theorem wfuse_any (q p : Nat) (X : Wnd) (S : Drv) (F : Nat → Prop) (r k i : Int) (w : World) (h : WD w q p X S F) :
    Calls Tryz.prog 35 #[.pointer (some ⟨q, 0, none⟩), .int .i64 r, .int .i64 k, .int .i64 i] w fun e w' => e = .returned (.tuple #[]) ∧ WD w' q p (X.setFuse r k i) S (grow F w w') ∧ Touch F w w' := by
  obtain ⟨FW, FD, hA, hF⟩ := h
  refine (fuse_any q _ X FW r k i w hA.wn).mono ?_
  rintro e w' ⟨he, hw, ht⟩
  exact ⟨he, control_end hA hF hw ht⟩
theorem warm_any (q p : Nat) (X : Wnd) (S : Drv) (F : Nat → Prop) (A : Option Addr) (n c : Nat) (l : List (Int × Int)) (w : World) (h : WD w q p X S F) (hr : Reads w w.heap.size 2 A n (planCells l)) (hA : 0 < n → ∀ ad, A = some ad → ¬F ad.block) (hn : n * 16 ≤ 140737488351232) :
    Calls Tryz.prog 34 #[.pointer (some ⟨q, 0, none⟩), .slice A n c] w fun e w' => e = .returned (.tuple #[]) ∧ WD w' q p (X.arm l) S (grow F w w') ∧ Touch F w w' := by
  obtain ⟨FW, FD, hAp, hF⟩ := h
  refine (arm_any q _ X FW A n c l w hAp.wn hr (fun h0 ad e hf => hA h0 ad e (hF _ (.inl hf))) hn).mono ?_
  rintro e w' ⟨he, hw, ht⟩
  exact ⟨he, control_end hAp hF hw ht⟩
def WDb (w : World) (h q p : Nat) (X : Wnd) (S : Drv) : Prop := WD w q p X S fun k => h ≤ k ∧ k < w.heap.size
theorem WDb.step {w w' : World} {h q p : Nat} {Y : Wnd} {T : Drv} (hh : h ≤ w.heap.size) (hd : WD w' q p Y T (grow (fun k => h ≤ k ∧ k < w.heap.size) w w')) (ht : Touch (fun k => h ≤ k ∧ k < w.heap.size) w w') : WDb w' h q p Y T ∧ Below h w w' :=
  ⟨hd.mono fun k hk => by
    have := ht.size
    rcases hk with hk | hk
    · exact ⟨hk.1, by omega⟩
    · exact ⟨by omega, hk.2⟩, ht.below hh fun k hk => hk.1⟩
theorem WDb.below {w w' : World} {h q p : Nat} {X : Wnd} {S : Drv} (hd : WDb w h q p X S) (hb : Below w.heap.size w w') : WDb w' h q p X S :=
  (WD.below hd hb).mono fun _ hk => ⟨hk.1, Nat.lt_of_lt_of_le hk.2 hb.size⟩
def Drb (w : World) (h p : Nat) (S : Drv) : Prop := Dr w p S fun k => h ≤ k ∧ k < w.heap.size
theorem Drb.step {w w' : World} {h p : Nat} {T : Drv} (hh : h ≤ w.heap.size) (hd : Dr w' p T (grow (fun k => h ≤ k ∧ k < w.heap.size) w w')) (ht : Touch (fun k => h ≤ k ∧ k < w.heap.size) w w') : Drb w' h p T ∧ Below h w w' :=
  ⟨hd.mono fun k hk => by
    have := ht.size
    rcases hk with hk | hk
    · exact ⟨hk.1, by omega⟩
    · exact ⟨by omega, hk.2⟩, ht.below hh fun k hk => hk.1⟩
theorem Drb.below {w w' : World} {h p : Nat} {S : Drv} (hd : Drb w h p S) (hb : Below w.heap.size w w') : Drb w' h p S :=
  (Dr.below hd hb).mono fun _ hk => ⟨hk.1, Nat.lt_of_lt_of_le hk.2 hb.size⟩
theorem newb_any (r : Int) (w : World) (h0 : 0 ≤ r) (h1 : r ≤ 1073741824) :
    Calls Tryz.prog 12 #[.int .i64 r] w fun e w' => ∃ p, e = .returned (.pointer (some ⟨p, 0, none⟩)) ∧ Drb w' w.heap.size p (Drv.new r.toNat) ∧ Below w.heap.size w w' := by
  refine (new_good r w h0 h1).mono ?_
  rintro e w' ⟨rfl, rfl⟩
  have hd := dr_new w r.toNat
  rw [show ((r.toNat : Nat) : Int) = r by omega] at hd
  exact ⟨_, rfl, (dr_lt ⟨_, hd⟩).mono fun k hk => hk, (((Below.refl _ w).alloc (Nat.le_refl _) _).alloc (by simp) _).alloc (by simp; omega) _⟩
theorem wnewb_any (h p : Nat) (S : Drv) (w : World) (hh : h ≤ w.heap.size) (hd : Drb w h p S) :
    Calls Tryz.prog 11 #[.pointer (some ⟨p, 0, none⟩)] w fun e w' => ∃ q, e = .returned (.pointer (some ⟨q, 0, none⟩)) ∧ WDb w' h q p Wnd.new S ∧ Below w.heap.size w w' := by
  refine (wnew_any p w).mono ?_
  rintro e w' ⟨rfl, hw, hb, hs⟩
  refine ⟨_, rfl, ⟨(· = w.heap.size), fun k => h ≤ k ∧ k < w.heap.size, ⟨hw, Dr.below hd hb, fun k hk => by rw [hk, hs]; omega, fun k hk => by have := hk.2; omega, fun k hk hd => by have := hd.2; omega⟩, fun k hk => ?_⟩, hb⟩
  rcases hk with hk | hk
  · rw [hk, hs]; omega
  · rw [hs]; exact ⟨hk.1, by omega⟩
end Go.Proofs.YtcbebefdbdppdaaGreat
