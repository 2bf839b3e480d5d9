/- What a law writes where there is no drive.; What is kept: the laws of a kept world, for all that a script does; the wound's and the disk's own methods in a world of one drive. No condition.; The drive's Loose. -/
import Derived.Test.YtdmcjomcbhdcbaaGreatM31
import Derived.Test.YtdmcjomcbhdcbaaGreatM13
import Derived.Test.YtdmcjomcbhdcbaaGreatM5
import Derived.Test.YtdmcjomcbhdcbaaGreatM7
namespace Go.Proofs.YtdmcjomcbhdcbaaGreat
open Go.RowKit Go.Maps

end Go.Proofs.YtdmcjomcbhdcbaaGreat
namespace Go.Proofs.YtdmcjomcbhdcbaaGreat
open Go.RowKit Go.Maps

section
variable {X : Wnd} {S : Drv} {k N r : Nat}
theorem turnW_keptM (h : KeptM X S k N r) (nm : Nm) (bs : List UInt8) (hr : N + 5 ≤ 1073741824) : KeptM (turnW X S nm bs).1 (turnW X S nm bs).2.1 (k + 5) (N + 5) r := by
  unfold turnW
  split
  · exact awrite_keptM h nm bs hr
  · exact h.mono (by omega) (by omega) hr
theorem wremove_keptM (h : KeptM X S k N r) (nm : Nm) (hr : N + 1 ≤ 1073741824) : KeptM (wcall X S false (S.remove nm)).1 (wcall X S false (S.remove nm)).2.1 (k + 1) (N + 1) r :=
  wcall_keptM h false _ (Drv.remove_inv h.k.drv nm hr) (Drv.remove_keepsRoom _ _) ((Drv.remove_refs h.m nm).mono (by omega)) hr
theorem wsyncDir_keptM (h : KeptM X S k N r) (hr : N + 1 ≤ 1073741824) : KeptM (wcall X S false (S.syncDir, 0)).1 (wcall X S false (S.syncDir, 0)).2.1 (k + 1) (N + 1) r :=
  wcall_keptM h false _ (Drv.syncDir_inv h.k.drv hr) rfl ((Drv.syncDir_refs h.m h.k.drv).mono (by omega)) hr
theorem aremove_keptM (h : KeptM X S k N r) (nm : Nm) (hr : N + 2 ≤ 1073741824) : KeptM (aremove X S nm).1 (aremove X S nm).2.1 (k + 2) (N + 2) r := by
  unfold aremove
  split
  · exact (wremove_keptM h nm (by omega)).mono (by omega) (by omega) hr
  · exact wsyncDir_keptM (wremove_keptM h nm (by omega)) (by omega)
theorem asweepEnd_keptM (h : KeptM X S k N r) (n : Int) (hr : N + 1 ≤ 1073741824) : KeptM (asweepEnd X S n).1 (asweepEnd X S n).2.1 (k + 1) (N + 1) r := by
  unfold asweepEnd
  split
  · exact wsyncDir_keptM h hr
  · exact wsyncDir_keptM h hr
theorem asweep_keptM (h : KeptM X S k N r) (hr : N + 3 ≤ 1073741824) : KeptM (asweep X S).1 (asweep X S).2.1 (k + 3) (N + 3) r := by
  have h1 : KeptM (wread X (dnames S.now, (0 : Int))).1 S (k + 1) (N + 1) r := wread_keptM h _ (by omega)
  unfold asweep
  split
  · exact h1.mono (by omega) (by omega) hr
  · split
    · split
      · exact (wremove_keptM h1 _ (by omega)).mono (by omega) (by omega) hr
      · exact asweepEnd_keptM (wremove_keptM h1 _ (by omega)) 1 (by omega)
    · exact (asweepEnd_keptM h1 0 (by omega)).mono (by omega) (by omega) hr
theorem Drv.flip_keepsRoom (S : Drv) (s : Nm) (n : Int) (pat : List UInt8) : (S.flip s n pat).1.room = S.room := by
  unfold Drv.flip
  split
  · rfl
  · split
    · rfl
    · split <;> rfl
theorem Drv.cut_keepsRoom (S : Drv) (s : Nm) (n : Int) : (S.cut s n).1.room = S.room := by
  unfold Drv.cut
  split
  · rfl
  · split
    · rfl
    · split <;> rfl
theorem Drv.crash_keepsRoom (S : Drv) (dirs : List Bool) (cuts : List Int) : (S.crash dirs cuts).room = S.room := rfl
theorem KeptM.wnd {Y : Wnd} (h : KeptM X S k N r) (hY : Y.Okn k) : KeptM Y S k N r := ⟨⟨hY, h.k.drv, h.k.room⟩, h.m⟩
theorem KeptM.flip (h : KeptM X S k N r) (s : Nm) (n : Int) (bs : List UInt8) : KeptM X (S.flip s n bs).1 k N r :=
  ⟨⟨h.k.wnd, Drv.flip_inv h.k.drv s n bs, (Drv.flip_keepsRoom S s n bs).trans h.k.room⟩, Drv.flip_refs h.m s n bs⟩
theorem KeptM.cut (h : KeptM X S k N r) (s : Nm) (n : Int) : KeptM X (S.cut s n).1 k N r :=
  ⟨⟨h.k.wnd, Drv.cut_inv h.k.drv s n, (Drv.cut_keepsRoom S s n).trans h.k.room⟩, Drv.cut_refs h.m s n⟩
theorem KeptM.crash (h : KeptM X S k N r) (dirs : List Bool) (cuts : List Int) : KeptM X (S.crash dirs cuts) k N r :=
  ⟨⟨h.k.wnd, Drv.crash_inv h.k.drv dirs cuts, (Drv.crash_keepsRoom S dirs cuts).trans h.k.room⟩, Drv.crash_refs h.k.drv dirs cuts⟩
end
end Go.Proofs.YtdmcjomcbhdcbaaGreat
namespace Go.Proofs.YtdmcjomcbhdcbaaGreat
open Go.RowKit Go.Maps

theorem remove_bad (q : Addr) (s : List UInt8) (hs : s.length ≤ maxLen) (hx : lookE s ≠ 0) (w : World) : Calls Tryz.prog 16 #[.iface 40 (.pointer (some q)), .string ⟨s.toArray⟩] w fun e w' => e = .returned (.int .i64 91) ∧ Below w.heap.size w w' := by
  have h : lookE s = 91 := by
    unfold lookE at hx ⊢
    split at hx
    · exact absurd rfl hx
    · rename_i h; exact if_neg h
  have HL : Hid (∀ W, Calls Tryz.prog 38 #[.iface 40 (.pointer (some q)), .string ⟨s.toArray⟩] W fun e w' => e = .returned (.int .i64 91) ∧ W = w') := Lib.hid fun W => by
    have := look_any q s W hs
    rw [h] at this
    exact this
  clear hx h hs
  go_enter Tryz.func16, Tryz.ntmps16
  go_wp2_with (go_at_call 38; refine (HL.out _).mono ?_; rintro e w' ⟨rfl, rfl⟩)
  go_ret
  exact ⟨rfl, Below.refl _ _⟩
theorem remove_nil (s : ByteArray) (w : World) : Calls Tryz.prog 16 #[.nilIface, .string s] w fun e w' => e = .returned (.int .i64 1) ∧ Below w.heap.size w w' := by
  go_enter Tryz.func16, Tryz.ntmps16
  go_wp2_with (go_at_call 38; refine (look_nil _ _).mono ?_; rintro e w' ⟨rfl, rfl⟩)
  go_ret
  exact ⟨rfl, Below.refl _ _⟩
end Go.Proofs.YtdmcjomcbhdcbaaGreat
