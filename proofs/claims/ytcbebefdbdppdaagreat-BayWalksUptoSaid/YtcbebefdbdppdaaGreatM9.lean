/- Read, List of a wound.; What is done with a wound: Calls, On, Offline, Power, Rest, Fuse, New.; The law's helpers: room, twin, files. -/
import Derived.Test.YtcbebefdbdppdaaGreatM8
namespace Go.Proofs.YtcbebefdbdppdaaGreat
open Go.RowKit Go.Maps
def wread (X : Wnd) {α : Type} (r : List α × Int) : Wnd × List α × Int :=
  if (X.struck false).2.1 = 0 then ((X.struck false).1, r.1, r.2) else ((X.struck false).1, [], (X.struck false).2.1)
theorem wread_any (q p : Nat) (X : Wnd) (S : Drv) (F : Nat → Prop) (s : ByteArray) (w : World) (hs : s.size ≤ maxLen) (h : WD w q p X S F) (hX : X.Ok) (hS : S.Small) :
    Calls Tryz.prog 17 #[.pointer (some ⟨q, 0, none⟩), .string s] w fun e w' =>
      ∃ v, e = .returned (.tuple #[v, .int .i64 (wread X (S.read s.data.toList)).2.2]) ∧ w'.ownsRow w.heap.size 5 1 v (wread X (S.read s.data.toList)).2.1.length ((wread X (S.read s.data.toList)).2.1.map B8) ∧
        WD w' q p (wread X (S.read s.data.toList)).1 S F ∧ Touch F w w' := by
  obtain ⟨FW, FD, hA, hF⟩ := h
  have HA := Lib.hid hA
  have HFF := Lib.hid hF
  have HK := Lib.hid (struck_any q _ X FW false w hA.wn hX)
  have HSM := Lib.hid hS
  clear hA hX hS
  by_cases he : (X.struck false).2.1 = 0
  · have hr : wread X (S.read s.data.toList) = ((X.struck false).1, (S.read s.data.toList).1, (S.read s.data.toList).2) := by unfold wread; rw [if_pos he]
    have HR := Lib.hid hr; clear hr
    rw [HR.out]
    have HE := Lib.hid he; clear he
    go_enter Tryz.func17, Tryz.ntmps17
    go_wp2_with (first
      | (go_at_call 64; refine HK.out.mono ?_; rintro e w1 ⟨rfl, hw1, ht1⟩; rw [HE.out]; have q0 : w1.cell? ⟨q, 0, none⟩ = some (.pointer (some ⟨p, 0, none⟩)) := head_cell hw1; have HW1 := Lib.hid hw1; have HT1 := Lib.hid ht1; have hsz1 := ht1.size; have HA1 : Hid (Apart w1 q p _ S FW FD) := Lib.hid (HA.out.wound hw1 ht1); clear hw1 ht1; obtain ⟨addr, hda⟩ := HA1.out.dr; have HDA := Lib.hid hda; clear hda)
      | (go_at_call 65; refine (read_any p S addr FD s w1 hs HDA.out HSM.out.len).mono ?_; rintro e w2 ⟨v, rfl, ho, hb⟩; have HO := Lib.hid ho; have HB := Lib.hid hb; clear ho hb))
    go_ret2
    exact ⟨v, rfl, ownsRow_base_a HO.out hsz1, read_steps HA.out HFF.out HW1.out HT1.out HB.out⟩
  · obtain ⟨z, hz⟩ : ∃ z, z = (X.struck false).2.1 := ⟨_, rfl⟩
    have hr : wread X (S.read s.data.toList) = ((X.struck false).1, [], z) := by unfold wread; rw [if_neg he, hz]
    have HR := Lib.hid hr; clear hr
    rw [HR.out]
    have HZ := Lib.hid hz
    have hne : (z != 0) = true := by rw [hz]; simpa using he
    clear he hz
    go_enter Tryz.func17, Tryz.ntmps17
    go_wp2_with (go_at_call 64; refine HK.out.mono ?_; rintro e w1 ⟨rfl, hw1, ht1⟩; rw [← HZ.out]; have HW1 := Lib.hid hw1; have HT1 := Lib.hid ht1; clear hw1 ht1)
    go_ret2
    exact ⟨_, rfl, World.ownsRow_nil _ _ _ _, wound_step0 HA.out HFF.out HW1.out HT1.out⟩
end Go.Proofs.YtcbebefdbdppdaaGreat
namespace Go.Proofs.YtcbebefdbdppdaaGreat
open Go.RowKit Go.Maps
section
variable {w : World} {q : Nat} {dv : Value} {X : Wnd} {pv : Value} {fq : Option Nat}
theorem WndAt.unfuse (h : WndAt w q dv X pv fq) : WndAt (w.setCell ⟨q, 6, none⟩ (.pointer none)) q dv { X with fuse := none } pv none where
  head := h.head.set_ 6 _
  plan := by
    refine ownsRow_keep h.plan fun k e => Below.heap_setCell _ _ _ _ ?_
    rintro rfl
    exact own_blk_ne h.plan h.head (by decide) e
  none_ := fun _ => rfl
  some_ := fun b e => by cases e
end
theorem offline_any (q : Nat) (dv : Value) (X : Wnd) (F : Nat → Prop) (off : Bool) (w : World) (h : Wn w q dv X F) :
    Calls Tryz.prog 36 #[.pointer (some ⟨q, 0, none⟩), .bool off] w fun e w' => e = .returned (.tuple #[]) ∧ Wn w' q dv { X with away := off } F ∧ Touch F w w' := by
  obtain ⟨pv, fq, h, hF⟩ := h
  have h1 : w.cell? ⟨q, 2, none⟩ = some (.bool X.away) := h.head.cell 2
  have h1f : w.frozen? ⟨q, 2, none⟩ = false := h.head.frozen 2
  have HA := Lib.hid h
  clear h
  go_enter Tryz.func36, Tryz.ntmps36
  go_wp2
  go_end0
  exact ⟨rfl, ⟨_, _, HA.out.turn 2 (.bool off) { X with away := off } rfl rfl rfl, hF⟩, Touch.setCell _ _ _ (hF q (.inl rfl))⟩
theorem wnew_any (p : Nat) (w : World) :
    Calls Tryz.prog 11 #[.pointer (some ⟨p, 0, none⟩)] w fun e w' =>
      e = .returned (.pointer (some ⟨w.heap.size, 0, none⟩)) ∧ Wn w' w.heap.size (.pointer (some ⟨p, 0, none⟩)) Wnd.new (· = w.heap.size) ∧ Below w.heap.size w w' ∧ w'.heap.size = w.heap.size + 1 := by
  go_enter Tryz.func11, Tryz.ntmps11
  go_wp2
  go_ret
  refine ⟨rfl, ⟨.slice none 0 0, none, ⟨Blk.new _ _ _, World.ownsRow_nil _ _ _ _, fun _ => rfl, fun b e => by cases e⟩, ?_⟩, (Below.refl _ _).alloc (Nat.le_refl _) _, alloc_size _ _⟩
  rintro k (h | h | h)
  · exact h
  · simp [Value.ownBlock] at h
  · cases h
end Go.Proofs.YtcbebefdbdppdaaGreat
namespace Go.Proofs.YtcbebefdbdppdaaGreat
open Go.RowKit Go.Maps
end Go.Proofs.YtcbebefdbdppdaaGreat
