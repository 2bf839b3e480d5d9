/- A file written whole through a wound: what comes of it, whatever strikes. No program in sight. -/
import Derived.Test.YtdiaihpilniikaaGreatHoJ
namespace Go.Proofs.YtdiaihpilniikaaGreat
open Go.RowKit Go.Maps

theorem wcall_cases {X Y : Wnd} {S T : Drv} {may : Bool} {f : Drv × Int} {x : Int} (h : wcall X S may f = (Y, T, x)) : Y = (X.struck may).1 ∧ ((T = f.1 ∧ x = f.2 ∧ (X.struck may).2.1 = 0) ∨ (T = S ∧ x ≠ 0 ∧ x = (X.struck may).2.1)) := by
  unfold wcall at h
  split at h
  · rename_i h0
    injection h with h1 h; injection h with h2 h3
    exact ⟨h1.symm, .inl ⟨h2.symm, h3.symm, h0⟩⟩
  · rename_i h0
    injection h with h1 h; injection h with h2 h3
    exact ⟨h1.symm, .inr ⟨h2.symm, by rw [← h3]; exact h0, h3.symm⟩⟩
theorem wappend_cases {X Y : Wnd} {S T : Drv} {s : Nm} {bs : List UInt8} {x : Int} (h : wappend X S s bs = (Y, T, x)) : Y = (X.struck true).1 ∧ ((T = (S.append s bs).1 ∧ x = (S.append s bs).2 ∧ (X.struck true).2.1 = 0) ∨ (x ≠ 0 ∧ x = (X.struck true).2.1 ∧ (T = S ∨ ∃ cs, T = (S.append s cs).1))) := by
  unfold wappend at h
  split at h
  · rename_i h0
    injection h with h1 h; injection h with h2 h3
    exact ⟨h1.symm, .inl ⟨h2.symm, h3.symm, h0⟩⟩
  · rename_i h0
    split at h
    · injection h with h1 h; injection h with h2 h3
      exact ⟨h1.symm, .inr ⟨by rw [← h3]; exact h0, h3.symm, .inr ⟨_, h2.symm⟩⟩⟩
    · injection h with h1 h; injection h with h2 h3
      exact ⟨h1.symm, .inr ⟨by rw [← h3]; exact h0, h3.symm, .inl h2.symm⟩⟩
theorem struck_up {X : Wnd} (hd : X.down = false) (ha : X.away = false) (may : Bool) : (X.struck may).1.calls = X.calls + 1 ∧ (X.struck may).1.away = false ∧ ((X.struck may).2.1 = 0 → (X.struck may).1.down = false) := by
  unfold Wnd.struck
  rw [if_neg (by rw [hd]; decide), if_neg (by rw [ha]; decide)]
  split
  · exact ⟨rfl, ha, fun h => by cases h⟩
  · exact ⟨rfl, ha, fun _ => hd⟩
theorem struck_off {X : Wnd} (h : ¬(X.down = false ∧ X.away = false)) (may : Bool) : (X.struck may).1 = X ∧ (X.struck may).2.1 ≠ 0 := by
  unfold Wnd.struck
  cases hd : X.down with
  | true => rw [if_pos rfl]; exact ⟨rfl, show (122 : Int) ≠ 0 by decide⟩
  | false =>
    rw [if_neg (by decide)]
    cases ha : X.away with
    | true => rw [if_pos rfl]; exact ⟨rfl, show (121 : Int) ≠ 0 by decide⟩
    | false => exact absurd ⟨hd, ha⟩ h

/-- The state ahead of the step k, where all went well till then. -/
structure AwSt (X0 : Wnd) (S0 : Drv) (P : Nm → Option (List UInt8) → Prop) (nm : Nm) (bs : List UInt8) (k : Nat) (X : Wnd) (S : Drv) : Prop where
  up : 0 < k → X.down = false ∧ X.away = false
  calls : X.calls = X0.calls + k
  holds : Holds S (fun s y => P s y ∨ 4 ≤ k ∧ s = nm ∧ y = some bs)
  others : ∀ s, s ≠ tmpN → s ≠ nm → S.shows s = S0.shows s
  low : k ≤ 3 → S.shows nm = S0.shows nm
  high : 4 ≤ k → S.shows nm = some bs
  fresh : 1 ≤ k → k ≤ 3 → ∃ i, Fresh S i ∧ (k = 1 → (S.body i).data = []) ∧ (2 ≤ k → (S.body i).data = bs) ∧ (k = 3 → (S.body i).safe = (S.body i).data.length)
/-- What a writing leaves. -/
structure AwEnd (X0 : Wnd) (S0 : Drv) (P : Nm → Option (List UInt8) → Prop) (nm : Nm) (bs : List UInt8) (Y : Wnd) (T : Drv) (x : Int) : Prop where
  holds : Holds T (fun s y => P s y ∨ s = nm ∧ y = some bs)
  others : ∀ s, s ≠ tmpN → s ≠ nm → T.shows s = S0.shows s
  cnt : ∃ n : Nat, n ≤ 5 ∧ Y.calls = X0.calls + n ∧ (n ≤ 4 → x ≠ 0 ∧ T.shows nm = S0.shows nm) ∧ (n = 5 → T.shows nm = some bs)
  ok : x = 0 → Holds T (fun s y => y = T.shows s) ∧ T.shows nm = some bs
  away : Y.away = X0.away

theorem awStep_law {X0 : Wnd} {S0 : Drv} {P : Nm → Option (List UInt8) → Prop} {nm : Nm} {bs : List UInt8} {k : Nat} {X Y : Wnd} {S T : Drv} {x : Int} (hn : named nm = true) (hnt : nm ≠ tmpN) (ht : Tidy S.now) (hk : k ≤ 4) (h : AwSt X0 S0 P nm bs k X S) (haw : X.away = X0.away)
    (hs : awStep nm bs (X, S) k = (Y, T, x)) : Y.away = X0.away ∧ (x = 0 → k ≤ 3 → AwSt X0 S0 P nm bs (k + 1) Y T) ∧ ((x ≠ 0 ∨ k = 4) → AwEnd X0 S0 P nm bs Y T x) := by
  -- what the wound says
  have hY : ∀ may, Y = (X.struck may).1 → (x ≠ 0 ∨ (X.struck may).2.1 = 0) → Y.away = X0.away ∧ ((X.struck may).2.1 = 0 → Y.down = false ∧ Y.away = false ∧ Y.calls = X0.calls + (k + 1 : Nat)) ∧ ∃ n : Nat, n ≤ k + 1 ∧ Y.calls = X0.calls + n ∧ (n ≤ k → x ≠ 0 ∧ k ≤ 3) := by
    intro may e hx
    subst e
    by_cases hu : X.down = false ∧ X.away = false
    · obtain ⟨a, b, c⟩ := struck_up hu.1 hu.2 may
      have hc : (X.struck may).1.calls = X0.calls + (k + 1 : Nat) := by rw [a, h.calls]; omega
      exact ⟨by rw [b, ← haw, hu.2], fun h0 => ⟨c h0, b, hc⟩, k + 1, Nat.le_refl _, hc, fun hle => by omega⟩
    · obtain ⟨a, b⟩ := struck_off hu may
      have hk0 : k = 0 := by
        rcases Nat.eq_zero_or_pos k with e | e
        · exact e
        · exact absurd (h.up e) hu
      rw [a]
      refine ⟨haw, fun h0 => absurd h0 b, k, by omega, h.calls, fun _ => ⟨?_, by omega⟩⟩
      rcases hx with hx | hx
      · exact hx
      · exact absurd hx b
  have hup : ∀ {U : Drv}, Holds U (fun s y => P s y ∨ 4 ≤ k ∧ s = nm ∧ y = some bs) → Holds U (fun s y => P s y ∨ s = nm ∧ y = some bs) := fun hu => hu.mono fun s y _ hy => by
    rcases hy with hy | ⟨_, hy⟩
    · exact .inl hy
    · exact .inr hy
  -- a refusal that leaves what all names show
  have bad : ∀ may, Y = (X.struck may).1 → x ≠ 0 → Holds T (fun s y => P s y ∨ 4 ≤ k ∧ s = nm ∧ y = some bs) → (∀ s, s ≠ tmpN → T.shows s = S.shows s) → k ≤ 3 → AwEnd X0 S0 P nm bs Y T x := by
    intro may e hx hH hsh hk3
    obtain ⟨a, _, n, hn1, hn2, _⟩ := hY may e (.inl hx)
    exact ⟨hup hH, fun s h1 h2 => (hsh s h1).trans (h.others s h1 h2), ⟨n, by omega, hn2, fun _ => ⟨hx, (hsh nm hnt).trans (h.low hk3)⟩, fun e => by omega⟩, fun e => absurd e hx, a⟩
  rcases (show k = 0 ∨ k = 1 ∨ k = 2 ∨ k = 3 ∨ k = 4 by omega) with rfl | rfl | rfl | rfl | rfl
  · obtain ⟨e, hc⟩ := wcall_cases (show wcall X S true (S.create tmpN) = (Y, T, x) from hs)
    by_cases hx : x = 0
    · rcases hc with ⟨e1, e2, h0⟩ | ⟨_, hx2, _⟩
      · obtain ⟨a, b, _⟩ := hY true e (.inr h0)
        obtain ⟨b1, b2, b3⟩ := b h0
        obtain ⟨c1, c2, c3, c4⟩ := h.holds.create ht (T := T) (by rw [Prod.ext_iff]; exact ⟨e1.symm, by rw [← e2, hx]⟩)
        exact ⟨a, fun _ _ => ⟨fun _ => ⟨b1, b2⟩, b3, c1.mono fun s y _ hy => hy.imp id fun ⟨h1, h2⟩ => absurd h1 (by omega), fun s h1 h2 => (c4 s h1).trans (h.others s h1 h2), fun _ => (c4 nm hnt).trans (h.low (by omega)), fun h1 => absurd h1 (by omega), fun _ _ => ⟨_, c2, fun _ => c3, fun h1 => absurd h1 (by omega), fun h1 => absurd h1 (by omega)⟩⟩, fun h1 => by rcases h1 with h1 | h1; exact absurd hx h1; omega⟩
      · exact absurd hx hx2
    · have hT : T = S := by
        rcases hc with ⟨e1, e2, _⟩ | ⟨e1, _⟩
        · exact create_no (s := tmpN) (S := S) (x := x) (by rw [Prod.ext_iff]; exact ⟨e1.symm, e2.symm⟩) hx
        · exact e1
      subst hT
      exact ⟨(hY true e (.inl hx)).1, fun e' => absurd e' hx, fun _ => bad true e hx h.holds (fun _ _ => rfl) (by omega)⟩
  · obtain ⟨i, hf, hd, _⟩ := h.fresh (by omega) (by omega)
    obtain ⟨e, hc⟩ := wappend_cases (show wappend X S tmpN bs = (Y, T, x) from hs)
    by_cases hx : x = 0
    · rcases hc with ⟨e1, e2, h0⟩ | ⟨hx2, _⟩
      · obtain ⟨a, b, _⟩ := hY true e (.inr h0)
        obtain ⟨b1, b2, b3⟩ := b h0
        obtain ⟨c1, c2, c3, c4⟩ := h.holds.append hf bs (T := T) (x := x) (by rw [Prod.ext_iff]; exact ⟨e1.symm, e2.symm⟩)
        exact ⟨a, fun _ _ => ⟨fun _ => ⟨b1, b2⟩, b3, c1.mono fun s y _ hy => hy.imp id fun ⟨h1, h2⟩ => absurd h1 (by omega), fun s h1 h2 => (c4 s h1).trans (h.others s h1 h2), fun _ => (c4 nm hnt).trans (h.low (by omega)), fun h1 => absurd h1 (by omega), fun _ _ => ⟨_, c2, fun h1 => absurd h1 (by omega), fun _ => by rw [c3 hx, hd rfl, List.nil_append], fun h1 => absurd h1 (by omega)⟩⟩, fun h1 => by rcases h1 with h1 | h1; exact absurd hx h1; omega⟩
      · exact absurd hx hx2
    · have hT : Holds T (fun s y => P s y ∨ 4 ≤ 1 ∧ s = nm ∧ y = some bs) ∧ ∀ s, s ≠ tmpN → T.shows s = S.shows s := by
        have ap : ∀ cs, T = (S.append tmpN cs).1 → Holds T (fun s y => P s y ∨ 4 ≤ 1 ∧ s = nm ∧ y = some bs) ∧ ∀ s, s ≠ tmpN → T.shows s = S.shows s := fun cs e1 => by
          obtain ⟨c1, _, _, c4⟩ := h.holds.append hf cs (T := T) (x := (S.append tmpN cs).2) (by rw [e1])
          exact ⟨c1, c4⟩
        rcases hc with ⟨e1, _, _⟩ | ⟨_, _, e1 | ⟨cs, e1⟩⟩
        · exact ap bs e1
        · rw [e1]; exact ⟨h.holds, fun _ _ => rfl⟩
        · exact ap cs e1
      exact ⟨(hY true e (.inl hx)).1, fun e' => absurd e' hx, fun _ => bad true e hx hT.1 hT.2 (by omega)⟩
  · obtain ⟨i, hf, _, hd, _⟩ := h.fresh (by omega) (by omega)
    obtain ⟨e, hc⟩ := wcall_cases (show wcall X S false (S.sync tmpN) = (Y, T, x) from hs)
    rcases hc with ⟨e1, e2, h0⟩ | ⟨e1, hx2, _⟩
    · obtain ⟨c1, c2, c0, c3, c4, c5⟩ := h.holds.sync hf (T := T) (x := x) (by rw [Prod.ext_iff]; exact ⟨e1.symm, e2.symm⟩)
      obtain ⟨a, b, _⟩ := hY false e (.inr h0)
      obtain ⟨b1, b2, b3⟩ := b h0
      exact ⟨a, fun _ _ => ⟨fun _ => ⟨b1, b2⟩, b3, c1.mono fun s y _ hy => hy.imp id fun ⟨h1, h2⟩ => absurd h1 (by omega), fun s h1 h2 => (c5 s h1).trans (h.others s h1 h2), fun _ => (c5 nm hnt).trans (h.low (by omega)), fun h1 => absurd h1 (by omega), fun _ _ => ⟨_, c2, fun h1 => absurd h1 (by omega), fun _ => by rw [c3, hd (by omega)], fun _ => c4⟩⟩, fun h1 => by rcases h1 with h1 | h1; exact absurd c0 h1; omega⟩
    · subst e1
      exact ⟨(hY false e (.inl hx2)).1, fun e' => absurd e' hx2, fun _ => bad false e hx2 h.holds (fun _ _ => rfl) (by omega)⟩
  · obtain ⟨i, hf, _, hd, hw⟩ := h.fresh (by omega) (by omega)
    obtain ⟨e, hc⟩ := wcall_cases (show wcall X S false (S.rename tmpN nm) = (Y, T, x) from hs)
    rcases hc with ⟨e1, e2, h0⟩ | ⟨e1, hx2, _⟩
    · obtain ⟨c0, c1, c2, c3⟩ := h.holds.rename ht hf nm hn hnt (hw rfl) (T := T) (x := x) (by rw [Prod.ext_iff]; exact ⟨e1.symm, e2.symm⟩)
      obtain ⟨a, b, _⟩ := hY false e (.inr h0)
      obtain ⟨b1, b2, b3⟩ := b h0
      rw [hd (by omega)] at c1 c2
      exact ⟨a, fun _ _ => ⟨fun _ => ⟨b1, b2⟩, b3, c1.mono fun s y _ hy => by
        rcases hy with (hy | hy) | hy
        · exact .inl hy
        · exact absurd hy.1 (by omega)
        · exact .inr ⟨by omega, hy⟩, fun s h1 h2 => (c3 s h1 h2).trans (h.others s h1 h2), fun h1 => absurd h1 (by omega), fun _ => c2, fun _ h1 => absurd h1 (by omega)⟩, fun h1 => by rcases h1 with h1 | h1; exact absurd c0 h1; omega⟩
    · subst e1
      exact ⟨(hY false e (.inl hx2)).1, fun e' => absurd e' hx2, fun _ => bad false e hx2 h.holds (fun _ _ => rfl) (by omega)⟩
  · obtain ⟨e, hc⟩ := wcall_cases (show wcall X S false (S.syncDir, 0) = (Y, T, x) from hs)
    have hyy : x ≠ 0 ∨ (X.struck false).2.1 = 0 := by
      rcases hc with ⟨_, _, h0⟩ | ⟨_, hx2, _⟩
      · exact .inr h0
      · exact .inl hx2
    obtain ⟨a, _, n, hn1, hn2, hn3⟩ := hY false e hyy
    have hn5 : n = 5 := by
      rcases Nat.lt_or_ge n 5 with h1 | h1
      · have := (hn3 (by omega)).2; omega
      · omega
    subst hn5
    refine ⟨a, fun _ h1 => absurd h1 (by omega), fun _ => ?_⟩
    rcases hc with ⟨e1, e2, h0⟩ | ⟨e1, hx2, _⟩
    · have e1' : T = S.syncDir := e1
      subst e1'
      have hH := h.holds.syncDir
      have hsh : ∀ s, S.syncDir.shows s = S.shows s := fun s => rfl
      exact ⟨hup (hH.mono fun s y _ hy => hy.1), fun s h1 h2 => h.others s h1 h2, ⟨5, Nat.le_refl _, hn2, fun h1 => absurd h1 (by omega), fun _ => h.high (by omega)⟩, fun _ => ⟨hH.mono fun s y _ hy => hy.2, h.high (by omega)⟩, a⟩
    · subst e1
      exact ⟨hup h.holds, h.others, ⟨5, Nat.le_refl _, hn2, fun h1 => absurd h1 (by omega), fun _ => h.high (by omega)⟩, fun e' => absurd e' hx2, a⟩

theorem awFrom_law {X0 : Wnd} {S0 : Drv} {P : Nm → Option (List UInt8) → Prop} {nm : Nm} {bs : List UInt8} (hn : named nm = true) (hnt : nm ≠ tmpN) {r : Nat} : ∀ (n k : Nat) (X : Wnd) (S : Drv) (c N : Nat), n + k = 5 → 0 < n → Kept X S c N r → (N + n) * r ≤ 1152921504606846976 → X.away = X0.away → AwSt X0 S0 P nm bs k X S →
    AwEnd X0 S0 P nm bs (awFrom nm bs n k (X, S)).1 (awFrom nm bs n k (X, S)).2.1 (awFrom nm bs n k (X, S)).2.2
  | 0, _, _, _, _, _, _, h0, _, _, _, _ => absurd h0 (by omega)
  | n + 1, k, X, S, c, N, hnk, _, hK, hr, haw, h => by
    have h1 : (N + 1) * r ≤ 1152921504606846976 := Nat.le_trans (Nat.mul_le_mul_right _ (by omega)) hr
    have hks := awStep_kept (Z := (X, S)) hK nm bs k h1
    obtain ⟨Y, T, x, hy⟩ : ∃ Y T x, awStep nm bs (X, S) k = (Y, T, x) := ⟨_, _, _, rfl⟩
    obtain ⟨a, b, d⟩ := awStep_law hn hnt hK.drv.tnow (by omega) h haw hy
    rw [hy] at hks
    unfold awFrom
    rw [hy]
    by_cases hx : x = 0
    · rw [if_pos hx]
      by_cases hk4 : k = 4
      · have hn0 : n = 0 := by omega
        subst hn0
        have := d (.inr hk4)
        rw [hx] at this
        exact this
      · exact awFrom_law hn hnt n (k + 1) Y T (c + 1) (N + 1) (by omega) (by omega) hks (by rw [show N + 1 + n = N + (n + 1) by omega]; exact hr) a (b hx (by omega))
    · rw [if_neg hx]
      exact d (.inl hx)
/-- What a writing of a file whole leaves, whatever strikes. -/
theorem awrite_law {X Y : Wnd} {S T : Drv} {P : Nm → Option (List UInt8) → Prop} {nm : Nm} {bs : List UInt8} {x : Int} {c N r : Nat} (hn : named nm = true) (hnt : nm ≠ tmpN) (hK : Kept X S c N r) (hr : (N + 5) * r ≤ 1152921504606846976) (h : Holds S P) (hy : awrite X S nm bs = (Y, T, x)) :
    AwEnd X S P nm bs Y T x := by
  have := awFrom_law (P := P) (bs := bs) hn hnt 5 0 X S c N rfl (by omega) hK hr rfl ⟨fun h => absurd h (by omega), by simp, h.mono fun s y _ hy => .inl hy, fun _ _ _ => rfl, fun _ => rfl, fun h => absurd h (by omega), fun h => absurd h (by omega)⟩
  have e : awFrom nm bs 5 0 (X, S) = (Y, T, x) := hy
  rw [e] at this
  exact this
end Go.Proofs.YtdiaihpilniikaaGreat
