/- A wound on its drive: both in one place; the calls of a wound. -/
import Derived.Test.YtdmcjomcbhdcbaaWs
namespace Go.Proofs.Ytdmcjomcbhdcbaa
open Go.RowKit Go.Maps

structure Apart (w : World) (q p : Nat) (X : Wnd) (S : Drv) (FW FD : Nat → Prop) : Prop where
  wn : Wn w q (.pointer (some ⟨p, 0, none⟩)) X FW
  dr : Dr w p S FD
  wlt : ∀ k, FW k → k < w.heap.size
  dlt : ∀ k, FD k → k < w.heap.size
  no : ∀ k, FW k → ¬FD k
/-- A wound and its drive, within the blocks F. -/
def WD (w : World) (q p : Nat) (X : Wnd) (S : Drv) (F : Nat → Prop) : Prop := ∃ FW FD, Apart w q p X S FW FD ∧ ∀ k, FW k ∨ FD k → F k

section
variable {w w1 w2 : World} {q p : Nat} {X Y : Wnd} {S T : Drv} {F G FW FD : Nat → Prop}
theorem Apart.wound (h : Apart w q p X S FW FD) (hw : Wn w1 q (.pointer (some ⟨p, 0, none⟩)) Y FW) (ht : Touch FW w w1) : Apart w1 q p Y S FW FD where
  wn := hw
  dr := h.dr.keep ht fun k hd hw => h.no k hw hd
  wlt := fun k hk => Nat.lt_of_lt_of_le (h.wlt k hk) ht.size
  dlt := fun k hk => Nat.lt_of_lt_of_le (h.dlt k hk) ht.size
  no := h.no
theorem Apart.drive (h : Apart w q p X S FW FD) (hd : Dr w1 p T (grow FD w w1)) (ht : Touch FD w w1) : Apart w1 q p X T FW (grow FD w w1) where
  wn := h.wn.keep ht fun k hw hd => h.no k hw hd
  dr := hd
  wlt := fun k hk => Nat.lt_of_lt_of_le (h.wlt k hk) ht.size
  dlt := fun k hk => by
    rcases hk with hk | hk
    · exact Nat.lt_of_lt_of_le (h.dlt k hk) ht.size
    · exact hk.2
  no := fun k hw hd => by
    rcases hd with hd | hd
    · exact h.no k hw hd
    · exact absurd (h.wlt k hw) (by omega)
theorem Apart.below (h : Apart w q p X S FW FD) (hb : Below w.heap.size w w1) : Apart w1 q p X S FW FD where
  wn := h.wn.keep (Touch.of_below (F := fun _ => False) hb) fun _ _ h => h
  dr := h.dr.keep (Touch.of_below (F := fun _ => False) hb) fun _ _ h => h
  wlt := fun k hk => Nat.lt_of_lt_of_le (h.wlt k hk) hb.size
  dlt := fun k hk => Nat.lt_of_lt_of_le (h.dlt k hk) hb.size
  no := h.no
theorem WD.mono (h : WD w q p X S F) (hFG : ∀ k, F k → G k) : WD w q p X S G := by
  obtain ⟨FW, FD, h, hf⟩ := h
  exact ⟨FW, FD, h, fun k hk => hFG k (hf k hk)⟩
theorem WD.keep (h : WD w q p X S F) (ht : Touch G w w1) (hd : ∀ k, F k → ¬G k) : WD w1 q p X S F := by
  obtain ⟨FW, FD, h, hf⟩ := h
  exact ⟨FW, FD, ⟨h.wn.keep ht fun k hk => hd k (hf k (.inl hk)), h.dr.keep ht fun k hk => hd k (hf k (.inr hk)), fun k hk => Nat.lt_of_lt_of_le (h.wlt k hk) ht.size, fun k hk => Nat.lt_of_lt_of_le (h.dlt k hk) ht.size, h.no⟩, hf⟩
/-- A step of the wound, then one of the drive. -/
theorem both_steps (h : Apart w q p X S FW FD) (hF : ∀ k, FW k ∨ FD k → F k) (hw : Wn w1 q (.pointer (some ⟨p, 0, none⟩)) Y FW) (ht : Touch FW w w1) (hd : Dr w2 p T (grow FD w1 w2)) (ht2 : Touch FD w1 w2) :
    WD w2 q p Y T (grow F w w2) ∧ Touch F w w2 := by
  have h1 := h.wound hw ht
  have h2 := h1.drive hd ht2
  refine ⟨⟨_, _, h2, ?_⟩, ?_⟩
  · rintro k (hk | hk | hk)
    · exact .inl (hF k (.inl hk))
    · exact .inl (hF k (.inr hk))
    · exact .inr ⟨by have := ht.size; omega, hk.2⟩
  · exact (ht.mono fun k _ hk => hF k (.inl hk)).trans (ht2.mono fun k _ hk => .inl (hF k (.inr hk)))
theorem wound_step (h : Apart w q p X S FW FD) (hF : ∀ k, FW k ∨ FD k → F k) (hw : Wn w1 q (.pointer (some ⟨p, 0, none⟩)) Y FW) (ht : Touch FW w w1) :
    WD w1 q p Y S (grow F w w1) ∧ Touch F w w1 :=
  ⟨⟨_, _, h.wound hw ht, fun k hk => .inl (hF k hk)⟩, ht.mono fun k _ hk => hF k (.inl hk)⟩
theorem read_steps (h : Apart w q p X S FW FD) (hF : ∀ k, FW k ∨ FD k → F k) (hw : Wn w1 q (.pointer (some ⟨p, 0, none⟩)) Y FW) (ht : Touch FW w w1) (hb : Below w1.heap.size w1 w2) :
    WD w2 q p Y S F ∧ Touch F w w2 :=
  ⟨⟨_, _, (h.wound hw ht).below hb, hF⟩, (ht.mono fun k _ hk => hF k (.inl hk)).trans (Touch.of_below hb)⟩
theorem wound_step0 (h : Apart w q p X S FW FD) (hF : ∀ k, FW k ∨ FD k → F k) (hw : Wn w1 q (.pointer (some ⟨p, 0, none⟩)) Y FW) (ht : Touch FW w w1) :
    WD w1 q p Y S F ∧ Touch F w w1 := ⟨⟨_, _, h.wound hw ht, hF⟩, ht.mono fun k _ hk => hF k (.inl hk)⟩
end

/-- A call of a wound that goes through to its drive, or not. -/
def wcall (X : Wnd) (S : Drv) (may : Bool) (f : Drv × Int) : Wnd × Drv × Int :=
  if (X.struck may).2.1 = 0 then ((X.struck may).1, f.1, f.2) else ((X.struck may).1, S, (X.struck may).2.1)

theorem head_cell {w : World} {q : Nat} {dv : Value} {X : Wnd} {F : Nat → Prop} (h : Wn w q dv X F) : w.cell? ⟨q, 0, none⟩ = some dv := by
  obtain ⟨pv, fq, h, _⟩ := h
  exact h.head.cell 0

theorem wcreate_any (q p : Nat) (X : Wnd) (S : Drv) (F : Nat → Prop) (s : ByteArray) (w : World) (hs : s.size ≤ maxLen) (h : WD w q p X S F) (hX : X.Ok) (hS : S.Small) :
    Calls Try.prog 14 #[.pointer (some ⟨q, 0, none⟩), .string s] w fun e w' =>
      e = .returned (.int .i64 (wcall X S true (S.create s.data.toList)).2.2) ∧ WD w' q p (wcall X S true (S.create s.data.toList)).1 (wcall X S true (S.create s.data.toList)).2.1 (grow F w w') ∧ Touch F w w' := by
  obtain ⟨FW, FD, hA, hF⟩ := h
  have HA := Lib.hid hA
  have HFF := Lib.hid hF
  have HK := Lib.hid (struck_any q _ X FW true w hA.wn hX)
  have HSM := Lib.hid hS
  clear hA hX hS
  by_cases he : (X.struck true).2.1 = 0
  · have hr : wcall X S true (S.create s.data.toList) = ((X.struck true).1, (S.create s.data.toList).1, (S.create s.data.toList).2) := by unfold wcall; rw [if_pos he]
    have HR := Lib.hid hr; clear hr
    rw [HR.out]
    have HE := Lib.hid he; clear he
    go_enter Try.func14, Try.ntmps14
    go_wp2_with (first
      | (go_at_call 50; refine HK.out.mono ?_; rintro e w1 ⟨rfl, hw1, ht1⟩; rw [HE.out]; have q0 : w1.cell? ⟨q, 0, none⟩ = some (.pointer (some ⟨p, 0, none⟩)) := head_cell hw1; have HW1 := Lib.hid hw1; have HT1 := Lib.hid ht1; have HA1 : Hid (Apart w1 q p _ S FW FD) := Lib.hid (HA.out.wound hw1 ht1); clear hw1 ht1)
      | (go_at_call 51; refine (create_any p S FD s w1 hs HA1.out.dr HSM.out).mono ?_; rintro e w2 ⟨rfl, hd2, ht2⟩; have HD2 := Lib.hid hd2; have HT2 := Lib.hid ht2; clear hd2 ht2))
    go_ret
    exact ⟨rfl, both_steps HA.out HFF.out HW1.out HT1.out HD2.out HT2.out⟩
  · obtain ⟨z, hz⟩ : ∃ z, z = (X.struck true).2.1 := ⟨_, rfl⟩
    have hr : wcall X S true (S.create s.data.toList) = ((X.struck true).1, S, z) := by unfold wcall; rw [if_neg he, hz]
    have HR := Lib.hid hr; clear hr
    rw [HR.out]
    have HZ := Lib.hid hz
    have hne : (z != 0) = true := by rw [hz]; simpa using he
    clear he hz
    go_enter Try.func14, Try.ntmps14
    go_wp2_with (go_at_call 50; refine HK.out.mono ?_; rintro e w1 ⟨rfl, hw1, ht1⟩; rw [← HZ.out]; have HW1 := Lib.hid hw1; have HT1 := Lib.hid ht1; clear hw1 ht1)
    go_ret
    exact ⟨rfl, wound_step HA.out HFF.out HW1.out HT1.out⟩

theorem wsync_any (q p : Nat) (X : Wnd) (S : Drv) (F : Nat → Prop) (s : ByteArray) (w : World) (hs : s.size ≤ maxLen) (h : WD w q p X S F) (hX : X.Ok) (hS : S.Small) :
    Calls Try.prog 30 #[.pointer (some ⟨q, 0, none⟩), .string s] w fun e w' =>
      e = .returned (.int .i64 (wcall X S false (S.sync s.data.toList)).2.2) ∧ WD w' q p (wcall X S false (S.sync s.data.toList)).1 (wcall X S false (S.sync s.data.toList)).2.1 (grow F w w') ∧ Touch F w w' := by
  obtain ⟨FW, FD, hA, hF⟩ := h
  have HA := Lib.hid hA
  have HFF := Lib.hid hF
  have HK := Lib.hid (struck_any q _ X FW false w hA.wn hX)
  have HSM := Lib.hid hS
  clear hA hX hS
  by_cases he : (X.struck false).2.1 = 0
  · have hr : wcall X S false (S.sync s.data.toList) = ((X.struck false).1, (S.sync s.data.toList).1, (S.sync s.data.toList).2) := by unfold wcall; rw [if_pos he]
    have HR := Lib.hid hr; clear hr
    rw [HR.out]
    have HE := Lib.hid he; clear he
    go_enter Try.func30, Try.ntmps30
    go_wp2_with (first
      | (go_at_call 50; refine HK.out.mono ?_; rintro e w1 ⟨rfl, hw1, ht1⟩; rw [HE.out]; have q0 : w1.cell? ⟨q, 0, none⟩ = some (.pointer (some ⟨p, 0, none⟩)) := head_cell hw1; have HW1 := Lib.hid hw1; have HT1 := Lib.hid ht1; have HA1 : Hid (Apart w1 q p _ S FW FD) := Lib.hid (HA.out.wound hw1 ht1); clear hw1 ht1)
      | (go_at_call 54; refine (sync_any p S FD s w1 hs HA1.out.dr HSM.out).mono ?_; rintro e w2 ⟨rfl, hd2, ht2⟩; have HD2 := Lib.hid hd2; have HT2 := Lib.hid ht2; clear hd2 ht2))
    go_ret
    exact ⟨rfl, both_steps HA.out HFF.out HW1.out HT1.out HD2.out HT2.out⟩
  · obtain ⟨z, hz⟩ : ∃ z, z = (X.struck false).2.1 := ⟨_, rfl⟩
    have hr : wcall X S false (S.sync s.data.toList) = ((X.struck false).1, S, z) := by unfold wcall; rw [if_neg he, hz]
    have HR := Lib.hid hr; clear hr
    rw [HR.out]
    have HZ := Lib.hid hz
    have hne : (z != 0) = true := by rw [hz]; simpa using he
    clear he hz
    go_enter Try.func30, Try.ntmps30
    go_wp2_with (go_at_call 50; refine HK.out.mono ?_; rintro e w1 ⟨rfl, hw1, ht1⟩; rw [← HZ.out]; have HW1 := Lib.hid hw1; have HT1 := Lib.hid ht1; clear hw1 ht1)
    go_ret
    exact ⟨rfl, wound_step HA.out HFF.out HW1.out HT1.out⟩

theorem wremove_any (q p : Nat) (X : Wnd) (S : Drv) (F : Nat → Prop) (s : ByteArray) (w : World) (hs : s.size ≤ maxLen) (h : WD w q p X S F) (hX : X.Ok) (hS : S.Small) :
    Calls Try.prog 32 #[.pointer (some ⟨q, 0, none⟩), .string s] w fun e w' =>
      e = .returned (.int .i64 (wcall X S false (S.remove s.data.toList)).2.2) ∧ WD w' q p (wcall X S false (S.remove s.data.toList)).1 (wcall X S false (S.remove s.data.toList)).2.1 (grow F w w') ∧ Touch F w w' := by
  obtain ⟨FW, FD, hA, hF⟩ := h
  have HA := Lib.hid hA
  have HFF := Lib.hid hF
  have HK := Lib.hid (struck_any q _ X FW false w hA.wn hX)
  have HSM := Lib.hid hS
  clear hA hX hS
  by_cases he : (X.struck false).2.1 = 0
  · have hr : wcall X S false (S.remove s.data.toList) = ((X.struck false).1, (S.remove s.data.toList).1, (S.remove s.data.toList).2) := by unfold wcall; rw [if_pos he]
    have HR := Lib.hid hr; clear hr
    rw [HR.out]
    have HE := Lib.hid he; clear he
    go_enter Try.func32, Try.ntmps32
    go_wp2_with (first
      | (go_at_call 50; refine HK.out.mono ?_; rintro e w1 ⟨rfl, hw1, ht1⟩; rw [HE.out]; have q0 : w1.cell? ⟨q, 0, none⟩ = some (.pointer (some ⟨p, 0, none⟩)) := head_cell hw1; have HW1 := Lib.hid hw1; have HT1 := Lib.hid ht1; have HA1 : Hid (Apart w1 q p _ S FW FD) := Lib.hid (HA.out.wound hw1 ht1); clear hw1 ht1)
      | (go_at_call 56; refine (remove_any p S FD s w1 hs HA1.out.dr HSM.out).mono ?_; rintro e w2 ⟨rfl, hd2, ht2⟩; have HD2 := Lib.hid hd2; have HT2 := Lib.hid ht2; clear hd2 ht2))
    go_ret
    exact ⟨rfl, both_steps HA.out HFF.out HW1.out HT1.out HD2.out HT2.out⟩
  · obtain ⟨z, hz⟩ : ∃ z, z = (X.struck false).2.1 := ⟨_, rfl⟩
    have hr : wcall X S false (S.remove s.data.toList) = ((X.struck false).1, S, z) := by unfold wcall; rw [if_neg he, hz]
    have HR := Lib.hid hr; clear hr
    rw [HR.out]
    have HZ := Lib.hid hz
    have hne : (z != 0) = true := by rw [hz]; simpa using he
    clear he hz
    go_enter Try.func32, Try.ntmps32
    go_wp2_with (go_at_call 50; refine HK.out.mono ?_; rintro e w1 ⟨rfl, hw1, ht1⟩; rw [← HZ.out]; have HW1 := Lib.hid hw1; have HT1 := Lib.hid ht1; clear hw1 ht1)
    go_ret
    exact ⟨rfl, wound_step HA.out HFF.out HW1.out HT1.out⟩

theorem wrename_any (q p : Nat) (X : Wnd) (S : Drv) (F : Nat → Prop) (s t : ByteArray) (w : World) (hs : s.size ≤ maxLen) (ht : t.size ≤ maxLen) (h : WD w q p X S F) (hX : X.Ok) (hS : S.Small) :
    Calls Try.prog 31 #[.pointer (some ⟨q, 0, none⟩), .string s, .string t] w fun e w' =>
      e = .returned (.int .i64 (wcall X S false (S.rename s.data.toList t.data.toList)).2.2) ∧ WD w' q p (wcall X S false (S.rename s.data.toList t.data.toList)).1 (wcall X S false (S.rename s.data.toList t.data.toList)).2.1 (grow F w w') ∧ Touch F w w' := by
  obtain ⟨FW, FD, hA, hF⟩ := h
  have HA := Lib.hid hA
  have HFF := Lib.hid hF
  have HK := Lib.hid (struck_any q _ X FW false w hA.wn hX)
  have HSM := Lib.hid hS
  clear hA hX hS
  by_cases he : (X.struck false).2.1 = 0
  · have hr : wcall X S false (S.rename s.data.toList t.data.toList) = ((X.struck false).1, (S.rename s.data.toList t.data.toList).1, (S.rename s.data.toList t.data.toList).2) := by unfold wcall; rw [if_pos he]
    have HR := Lib.hid hr; clear hr
    rw [HR.out]
    have HE := Lib.hid he; clear he
    go_enter Try.func31, Try.ntmps31
    go_wp2_with (first
      | (go_at_call 50; refine HK.out.mono ?_; rintro e w1 ⟨rfl, hw1, ht1⟩; rw [HE.out]; have q0 : w1.cell? ⟨q, 0, none⟩ = some (.pointer (some ⟨p, 0, none⟩)) := head_cell hw1; have HW1 := Lib.hid hw1; have HT1 := Lib.hid ht1; have HA1 : Hid (Apart w1 q p _ S FW FD) := Lib.hid (HA.out.wound hw1 ht1); clear hw1 ht1)
      | (go_at_call 55; refine (rename_any p S FD s t w1 hs ht HA1.out.dr HSM.out).mono ?_; rintro e w2 ⟨rfl, hd2, ht2⟩; have HD2 := Lib.hid hd2; have HT2 := Lib.hid ht2; clear hd2 ht2))
    go_ret
    exact ⟨rfl, both_steps HA.out HFF.out HW1.out HT1.out HD2.out HT2.out⟩
  · obtain ⟨z, hz⟩ : ∃ z, z = (X.struck false).2.1 := ⟨_, rfl⟩
    have hr : wcall X S false (S.rename s.data.toList t.data.toList) = ((X.struck false).1, S, z) := by unfold wcall; rw [if_neg he, hz]
    have HR := Lib.hid hr; clear hr
    rw [HR.out]
    have HZ := Lib.hid hz
    have hne : (z != 0) = true := by rw [hz]; simpa using he
    clear he hz
    go_enter Try.func31, Try.ntmps31
    go_wp2_with (go_at_call 50; refine HK.out.mono ?_; rintro e w1 ⟨rfl, hw1, ht1⟩; rw [← HZ.out]; have HW1 := Lib.hid hw1; have HT1 := Lib.hid ht1; clear hw1 ht1)
    go_ret
    exact ⟨rfl, wound_step HA.out HFF.out HW1.out HT1.out⟩

theorem wsyncDir_any (q p : Nat) (X : Wnd) (S : Drv) (F : Nat → Prop)  (w : World)  (h : WD w q p X S F) (hX : X.Ok) (hS : S.Small) :
    Calls Try.prog 33 #[.pointer (some ⟨q, 0, none⟩)] w fun e w' =>
      e = .returned (.int .i64 (wcall X S false ((S.syncDir, 0))).2.2) ∧ WD w' q p (wcall X S false ((S.syncDir, 0))).1 (wcall X S false ((S.syncDir, 0))).2.1 (grow F w w') ∧ Touch F w w' := by
  obtain ⟨FW, FD, hA, hF⟩ := h
  have HA := Lib.hid hA
  have HFF := Lib.hid hF
  have HK := Lib.hid (struck_any q _ X FW false w hA.wn hX)
  have HSM := Lib.hid hS
  clear hA hX hS
  by_cases he : (X.struck false).2.1 = 0
  · have hr : wcall X S false ((S.syncDir, 0)) = ((X.struck false).1, ((S.syncDir, 0)).1, ((S.syncDir, 0)).2) := by unfold wcall; rw [if_pos he]
    have HR := Lib.hid hr; clear hr
    rw [HR.out]
    have HE := Lib.hid he; clear he
    go_enter Try.func33, Try.ntmps33
    go_wp2_with (first
      | (go_at_call 50; refine HK.out.mono ?_; rintro e w1 ⟨rfl, hw1, ht1⟩; rw [HE.out]; have q0 : w1.cell? ⟨q, 0, none⟩ = some (.pointer (some ⟨p, 0, none⟩)) := head_cell hw1; have HW1 := Lib.hid hw1; have HT1 := Lib.hid ht1; have HA1 : Hid (Apart w1 q p _ S FW FD) := Lib.hid (HA.out.wound hw1 ht1); clear hw1 ht1)
      | (go_at_call 57; refine (syncDir_any p S FD w1 HA1.out.dr).mono ?_; rintro e w2 ⟨rfl, hd2, ht2⟩; have HD2 := Lib.hid hd2; have HT2 := Lib.hid ht2; clear hd2 ht2))
    go_ret
    exact ⟨rfl, both_steps HA.out HFF.out HW1.out HT1.out HD2.out HT2.out⟩
  · obtain ⟨z, hz⟩ : ∃ z, z = (X.struck false).2.1 := ⟨_, rfl⟩
    have hr : wcall X S false ((S.syncDir, 0)) = ((X.struck false).1, S, z) := by unfold wcall; rw [if_neg he, hz]
    have HR := Lib.hid hr; clear hr
    rw [HR.out]
    have HZ := Lib.hid hz
    have hne : (z != 0) = true := by rw [hz]; simpa using he
    clear he hz
    go_enter Try.func33, Try.ntmps33
    go_wp2_with (go_at_call 50; refine HK.out.mono ?_; rintro e w1 ⟨rfl, hw1, ht1⟩; rw [← HZ.out]; have HW1 := Lib.hid hw1; have HT1 := Lib.hid ht1; clear hw1 ht1)
    go_ret
    exact ⟨rfl, wound_step HA.out HFF.out HW1.out HT1.out⟩
end Go.Proofs.Ytdmcjomcbhdcbaa
