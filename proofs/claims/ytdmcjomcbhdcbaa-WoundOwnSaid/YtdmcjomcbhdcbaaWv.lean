/- Read, List of a wound. -/
import Derived.Test.YtdmcjomcbhdcbaaWu
namespace Go.Proofs.Ytdmcjomcbhdcbaa
open Go.RowKit Go.Maps

def wread (X : Wnd) {α : Type} (r : List α × Int) : Wnd × List α × Int :=
  if (X.struck false).2.1 = 0 then ((X.struck false).1, r.1, r.2) else ((X.struck false).1, [], (X.struck false).2.1)

theorem dr_dra {w : World} {p : Nat} {S : Drv} {F : Nat → Prop} (h : Dr w p S F) : ∃ addr, DrA w p S addr F := h

theorem wread_any (q p : Nat) (X : Wnd) (S : Drv) (F : Nat → Prop) (s : ByteArray) (w : World) (hs : s.size ≤ maxLen) (h : WD w q p X S F) (hX : X.Ok) (hS : S.Small) :
    Calls Try.prog 17 #[.pointer (some ⟨q, 0, none⟩), .string s] w fun e w' =>
      ∃ v, e = .returned (.tuple #[v, .int .i64 (wread X (S.read s.data.toList)).2.2]) ∧ w'.ownsRow w.heap.size 5 1 v (wread X (S.read s.data.toList)).2.1.length ((wread X (S.read s.data.toList)).2.1.map B8) ∧
        WD w' q p (wread X (S.read s.data.toList)).1 S F ∧ Touch F w w' := by
  obtain ⟨FW, FD, hA, hF⟩ := h
  have HA := Lib.hid hA
  have HFF := Lib.hid hF
  have HK := Lib.hid (struck_any q _ X FW false w hA.wn hX)
  have HSM := Lib.hid hS
  clear hA hX hS
  by_cases he : (X.struck false).2.1 = 0
  · have hr : wread X (S.read s.data.toList) = ((X.struck false).1, (S.read s.data.toList).1, (S.read s.data.toList).2) := by unfold wread; rw [if_pos he]
    have HR := Lib.hid hr; clear hr
    rw [HR.out]
    have HE := Lib.hid he; clear he
    go_enter Try.func17, Try.ntmps17
    go_wp2_with (first
      | (go_at_call 50; refine HK.out.mono ?_; rintro e w1 ⟨rfl, hw1, ht1⟩; rw [HE.out]; have q0 : w1.cell? ⟨q, 0, none⟩ = some (.pointer (some ⟨p, 0, none⟩)) := head_cell hw1; have HW1 := Lib.hid hw1; have HT1 := Lib.hid ht1; have hsz1 := ht1.size; have HA1 : Hid (Apart w1 q p _ S FW FD) := Lib.hid (HA.out.wound hw1 ht1); clear hw1 ht1; obtain ⟨addr, hda⟩ := HA1.out.dr; have HDA := Lib.hid hda; clear hda)
      | (go_at_call 52; refine (read_any p S addr FD s w1 hs HDA.out HSM.out.len).mono ?_; rintro e w2 ⟨v, rfl, ho, hb⟩; have HO := Lib.hid ho; have HB := Lib.hid hb; clear ho hb))
    go_ret2
    exact ⟨v, rfl, ownsRow_base_a HO.out hsz1, read_steps HA.out HFF.out HW1.out HT1.out HB.out⟩
  · obtain ⟨z, hz⟩ : ∃ z, z = (X.struck false).2.1 := ⟨_, rfl⟩
    have hr : wread X (S.read s.data.toList) = ((X.struck false).1, [], z) := by unfold wread; rw [if_neg he, hz]
    have HR := Lib.hid hr; clear hr
    rw [HR.out]
    have HZ := Lib.hid hz
    have hne : (z != 0) = true := by rw [hz]; simpa using he
    clear he hz
    go_enter Try.func17, Try.ntmps17
    go_wp2_with (go_at_call 50; refine HK.out.mono ?_; rintro e w1 ⟨rfl, hw1, ht1⟩; rw [← HZ.out]; have HW1 := Lib.hid hw1; have HT1 := Lib.hid ht1; clear hw1 ht1)
    go_ret2
    exact ⟨_, rfl, World.ownsRow_nil _ _ _ _, wound_step0 HA.out HFF.out HW1.out HT1.out⟩

theorem wlist_any (q p : Nat) (X : Wnd) (S : Drv) (F : Nat → Prop)  (w : World) (hn : size S.now ≤ 2199023255552) (h : WD w q p X S F) (hX : X.Ok) (hS : S.Small) :
    Calls Try.prog 19 #[.pointer (some ⟨q, 0, none⟩)] w fun e w' =>
      ∃ v, e = .returned (.tuple #[v, .int .i64 (wread X ((dnames S.now, (0 : Int)))).2.2]) ∧ w'.ownsRow w.heap.size 9 1 v (wread X ((dnames S.now, (0 : Int)))).2.1.length ((wread X ((dnames S.now, (0 : Int)))).2.1.map strV) ∧
        WD w' q p (wread X ((dnames S.now, (0 : Int)))).1 S F ∧ Touch F w w' := by
  obtain ⟨FW, FD, hA, hF⟩ := h
  have HA := Lib.hid hA
  have HFF := Lib.hid hF
  have HK := Lib.hid (struck_any q _ X FW false w hA.wn hX)
  have HSM := Lib.hid hS
  clear hA hX hS
  by_cases he : (X.struck false).2.1 = 0
  · have hr : wread X ((dnames S.now, (0 : Int))) = ((X.struck false).1, ((dnames S.now, (0 : Int))).1, ((dnames S.now, (0 : Int))).2) := by unfold wread; rw [if_pos he]
    have HR := Lib.hid hr; clear hr
    rw [HR.out]
    have HE := Lib.hid he; clear he
    go_enter Try.func19, Try.ntmps19
    go_wp2_with (first
      | (go_at_call 50; refine HK.out.mono ?_; rintro e w1 ⟨rfl, hw1, ht1⟩; rw [HE.out]; have q0 : w1.cell? ⟨q, 0, none⟩ = some (.pointer (some ⟨p, 0, none⟩)) := head_cell hw1; have HW1 := Lib.hid hw1; have HT1 := Lib.hid ht1; have hsz1 := ht1.size; have HA1 : Hid (Apart w1 q p _ S FW FD) := Lib.hid (HA.out.wound hw1 ht1); clear hw1 ht1; obtain ⟨addr, hda⟩ := HA1.out.dr; have HDA := Lib.hid hda; clear hda)
      | (go_at_call 45; refine (list_any p S addr FD w1 HDA.out hn).mono ?_; rintro e w2 ⟨v, rfl, ho, hb⟩; have HO := Lib.hid ho; have HB := Lib.hid hb; clear ho hb))
    go_ret2
    exact ⟨v, rfl, ownsRow_base_a HO.out hsz1, read_steps HA.out HFF.out HW1.out HT1.out HB.out⟩
  · obtain ⟨z, hz⟩ : ∃ z, z = (X.struck false).2.1 := ⟨_, rfl⟩
    have hr : wread X ((dnames S.now, (0 : Int))) = ((X.struck false).1, [], z) := by unfold wread; rw [if_neg he, hz]
    have HR := Lib.hid hr; clear hr
    rw [HR.out]
    have HZ := Lib.hid hz
    have hne : (z != 0) = true := by rw [hz]; simpa using he
    clear he hz
    go_enter Try.func19, Try.ntmps19
    go_wp2_with (go_at_call 50; refine HK.out.mono ?_; rintro e w1 ⟨rfl, hw1, ht1⟩; rw [← HZ.out]; have HW1 := Lib.hid hw1; have HT1 := Lib.hid ht1; clear hw1 ht1)
    go_ret2
    exact ⟨_, rfl, World.ownsRow_nil _ _ _ _, wound_step0 HA.out HFF.out HW1.out HT1.out⟩
end Go.Proofs.Ytdmcjomcbhdcbaa
