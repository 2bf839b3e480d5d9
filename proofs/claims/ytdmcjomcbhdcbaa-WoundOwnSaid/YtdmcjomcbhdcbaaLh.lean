/- What is done with a wound on its drive; a wound and its drive above a place of the memory. -/
import Derived.Test.YtdmcjomcbhdcbaaLg
import Derived.Test.YtdmcjomcbhdcbaaWx
namespace Go.Proofs.Ytdmcjomcbhdcbaa
open Go.RowKit Go.Maps

section
variable {w w1 : World} {q p : Nat} {X Y : Wnd} {S T : Drv} {F FW FD : Nat → Prop}
theorem control_end (h : Apart w q p X S FW FD) (hF : ∀ k, FW k ∨ FD k → F k) (hw : Wn w1 q (.pointer (some ⟨p, 0, none⟩)) Y (grow FW w w1)) (ht : Touch FW w w1) :
    WD w1 q p Y S (grow F w w1) ∧ Touch F w w1 := by
  refine ⟨⟨grow FW w w1, FD, ⟨hw, h.dr.keep ht fun k hd hw => h.no k hw hd, fun k hk => ?_, fun k hk => Nat.lt_of_lt_of_le (h.dlt k hk) ht.size, fun k hk hd => ?_⟩, fun k hk => ?_⟩, ht.mono fun k _ hk => hF k (.inl hk)⟩
  · rcases hk with hk | hk
    · exact Nat.lt_of_lt_of_le (h.wlt k hk) ht.size
    · exact hk.2
  · rcases hk with hk | hk
    · exact h.no k hk hd
    · have := h.dlt k hd; omega
  · rcases hk with (hk | hk) | hk
    · exact .inl (hF k (.inl hk))
    · exact .inr hk
    · exact .inl (hF k (.inr hk))
theorem WD.wn (h : WD w q p X S F) : Wn w q (.pointer (some ⟨p, 0, none⟩)) X F := by
  obtain ⟨FW, FD, h, hF⟩ := h
  exact h.wn.mono fun k hk => hF k (.inl hk)
theorem WD.dr (h : WD w q p X S F) : Dr w p S F := by
  obtain ⟨FW, FD, h, hF⟩ := h
  exact h.dr.mono fun k hk => hF k (.inr hk)
theorem WD.lt (h : WD w q p X S F) : WD w q p X S fun k => F k ∧ k < w.heap.size := by
  obtain ⟨FW, FD, h, hF⟩ := h
  refine ⟨FW, FD, h, fun k hk => ⟨hF k hk, ?_⟩⟩
  rcases hk with hk | hk
  · exact h.wlt k hk
  · exact h.dlt k hk
end

theorem wpower_any (q p : Nat) (X : Wnd) (S : Drv) (F : Nat → Prop) (on : Bool) (w : World) (h : WD w q p X S F) :
    Calls Try.prog 26 #[.pointer (some ⟨q, 0, none⟩), .bool on] w fun e w' => e = .returned (.tuple #[]) ∧ WD w' q p { X with down := !on } S (grow F w w') ∧ Touch F w w' := by
  obtain ⟨FW, FD, hA, hF⟩ := h
  refine (power_any q _ X FW on w hA.wn).mono ?_
  rintro e w' ⟨he, hw, ht⟩
  exact ⟨he, control_end hA hF (hw.mono fun k hk => .inl hk) ht⟩
theorem woffline_any (q p : Nat) (X : Wnd) (S : Drv) (F : Nat → Prop) (off : Bool) (w : World) (h : WD w q p X S F) :
    Calls Try.prog 23 #[.pointer (some ⟨q, 0, none⟩), .bool off] w fun e w' => e = .returned (.tuple #[]) ∧ WD w' q p { X with away := off } S (grow F w w') ∧ Touch F w w' := by
  obtain ⟨FW, FD, hA, hF⟩ := h
  refine (offline_any q _ X FW off w hA.wn).mono ?_
  rintro e w' ⟨he, hw, ht⟩
  exact ⟨he, control_end hA hF (hw.mono fun k hk => .inl hk) ht⟩
theorem wrest_any (q p : Nat) (X : Wnd) (S : Drv) (F : Nat → Prop) (off : Bool) (w : World) (h : WD w q p X S F) (hX : X.Ok) :
    Calls Try.prog 25 #[.pointer (some ⟨q, 0, none⟩), .bool off] w fun e w' => e = .returned (.tuple #[]) ∧ WD w' q p (X.rest off) S (grow F w w') ∧ Touch F w w' := by
  obtain ⟨FW, FD, hA, hF⟩ := h
  refine (rest_any q _ X FW off w hA.wn hX).mono ?_
  rintro e w' ⟨he, hw, ht⟩
  exact ⟨he, control_end hA hF (hw.mono fun k hk => .inl hk) ht⟩
theorem wfuse_any (q p : Nat) (X : Wnd) (S : Drv) (F : Nat → Prop) (r k i : Int) (w : World) (h : WD w q p X S F) :
    Calls Try.prog 24 #[.pointer (some ⟨q, 0, none⟩), .int .i64 r, .int .i64 k, .int .i64 i] w fun e w' => e = .returned (.tuple #[]) ∧ WD w' q p (X.setFuse r k i) S (grow F w w') ∧ Touch F w w' := by
  obtain ⟨FW, FD, hA, hF⟩ := h
  refine (fuse_any q _ X FW r k i w hA.wn).mono ?_
  rintro e w' ⟨he, hw, ht⟩
  exact ⟨he, control_end hA hF hw ht⟩
theorem warm_any (q p : Nat) (X : Wnd) (S : Drv) (F : Nat → Prop) (A : Option Addr) (n c : Nat) (l : List (Int × Int)) (w : World) (h : WD w q p X S F) (hr : Reads w w.heap.size 2 A n (planCells l)) (hA : 0 < n → ∀ ad, A = some ad → ¬F ad.block) (hn : n * 16 ≤ 140737488351232) :
    Calls Try.prog 22 #[.pointer (some ⟨q, 0, none⟩), .slice A n c] w fun e w' => e = .returned (.tuple #[]) ∧ WD w' q p (X.arm l) S (grow F w w') ∧ Touch F w w' := by
  obtain ⟨FW, FD, hAp, hF⟩ := h
  refine (arm_any q _ X FW A n c l w hAp.wn hr (fun h0 ad e hf => hA h0 ad e (hF _ (.inl hf))) hn).mono ?_
  rintro e w' ⟨he, hw, ht⟩
  exact ⟨he, control_end hAp hF hw ht⟩

/-- A wound and its drive, all of it at h or above. -/
def WDb (w : World) (h q p : Nat) (X : Wnd) (S : Drv) : Prop := WD w q p X S fun k => h ≤ k ∧ k < w.heap.size
theorem WDb.step {w w' : World} {h q p : Nat} {Y : Wnd} {T : Drv} (hh : h ≤ w.heap.size) (hd : WD w' q p Y T (grow (fun k => h ≤ k ∧ k < w.heap.size) w w')) (ht : Touch (fun k => h ≤ k ∧ k < w.heap.size) w w') : WDb w' h q p Y T ∧ Below h w w' :=
  ⟨hd.mono fun k hk => by
    have := ht.size
    rcases hk with hk | hk
    · exact ⟨hk.1, by omega⟩
    · exact ⟨by omega, hk.2⟩, ht.below hh fun k hk => hk.1⟩
theorem WDb.stepF {w w' : World} {h q p : Nat} {Y : Wnd} {T : Drv} {F : Nat → Prop} (hF : ∀ k, F k → h ≤ k ∧ k < w.heap.size) (hh : h ≤ w.heap.size) (hd : WD w' q p Y T (grow F w w')) (ht : Touch F w w') : WDb w' h q p Y T ∧ Below h w w' :=
  ⟨hd.mono fun k hk => by
    have := ht.size
    rcases hk with hk | hk
    · have := hF k hk; exact ⟨this.1, by omega⟩
    · exact ⟨by omega, hk.2⟩, ht.below hh fun k hk => (hF k hk).1⟩
theorem WDb.below {w w' : World} {h q p : Nat} {X : Wnd} {S : Drv} (hd : WDb w h q p X S) (hb : Below w.heap.size w w') : WDb w' h q p X S :=
  (WD.below hd hb).mono fun _ hk => ⟨hk.1, Nat.lt_of_lt_of_le hk.2 hb.size⟩
/-- A drive, all of it at h or above. -/
def Drb (w : World) (h p : Nat) (S : Drv) : Prop := Dr w p S fun k => h ≤ k ∧ k < w.heap.size
theorem Drb.step {w w' : World} {h p : Nat} {T : Drv} (hh : h ≤ w.heap.size) (hd : Dr w' p T (grow (fun k => h ≤ k ∧ k < w.heap.size) w w')) (ht : Touch (fun k => h ≤ k ∧ k < w.heap.size) w w') : Drb w' h p T ∧ Below h w w' :=
  ⟨hd.mono fun k hk => by
    have := ht.size
    rcases hk with hk | hk
    · exact ⟨hk.1, by omega⟩
    · exact ⟨by omega, hk.2⟩, ht.below hh fun k hk => hk.1⟩
theorem Drb.below {w w' : World} {h p : Nat} {S : Drv} (hd : Drb w h p S) (hb : Below w.heap.size w w') : Drb w' h p S :=
  (Dr.below hd hb).mono fun _ hk => ⟨hk.1, Nat.lt_of_lt_of_le hk.2 hb.size⟩

/-- A new drive. -/
theorem newb_any (r : Int) (w : World) (h0 : 0 ≤ r) (h1 : r ≤ 1073741824) :
    Calls Try.prog 11 #[.int .i64 r] w fun e w' => ∃ p, e = .returned (.pointer (some ⟨p, 0, none⟩)) ∧ Drb w' w.heap.size p (Drv.new r.toNat) ∧ Below w.heap.size w w' := by
  refine (new_good r w h0 h1).mono ?_
  rintro e w' ⟨rfl, rfl⟩
  have hd := dr_new w r.toNat
  rw [show ((r.toNat : Nat) : Int) = r by omega] at hd
  exact ⟨_, rfl, (dr_lt ⟨_, hd⟩).mono fun k hk => hk, (((Below.refl _ w).alloc (Nat.le_refl _) _).alloc (by simp) _).alloc (by simp; omega) _⟩
/-- A new wound on a drive. -/
theorem wnewb_any (h p : Nat) (S : Drv) (w : World) (hh : h ≤ w.heap.size) (hd : Drb w h p S) :
    Calls Try.prog 10 #[.pointer (some ⟨p, 0, none⟩)] w fun e w' => ∃ q, e = .returned (.pointer (some ⟨q, 0, none⟩)) ∧ WDb w' h q p Wnd.new S ∧ Below w.heap.size w w' := by
  refine (wnew_any p w).mono ?_
  rintro e w' ⟨rfl, hw, hb, hs⟩
  refine ⟨_, rfl, ⟨(· = w.heap.size), fun k => h ≤ k ∧ k < w.heap.size, ⟨hw, Dr.below hd hb, fun k hk => by rw [hk, hs]; omega, fun k hk => by have := hk.2; omega, fun k hk hd => by have := hd.2; omega⟩, fun k hk => ?_⟩, hb⟩
  rcases hk with hk | hk
  · rw [hk, hs]; omega
  · rw [hs]; exact ⟨hk.1, by omega⟩
end Go.Proofs.Ytdmcjomcbhdcbaa
