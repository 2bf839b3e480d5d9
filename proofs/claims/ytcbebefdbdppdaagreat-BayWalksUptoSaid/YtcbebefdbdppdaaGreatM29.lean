/- cairnlaw14.fit: the shard with blocks of the lengths that its head wants.; drive.Remove, wound.Remove.; atomic.look, each refusal. -/
import Derived.Test.YtcbebefdbdppdaaGreatM26
import Derived.Test.YtcbebefdbdppdaaGreatM28
import Derived.Laws.CopyOwn
import Derived.Test.YtcbebefdbdppdaaGreatM24
namespace Go.Proofs.YtcbebefdbdppdaaGreat
open Go.RowKit Go.Maps
end Go.Proofs.YtcbebefdbdppdaaGreat
namespace Go.Proofs.YtcbebefdbdppdaaGreat
open Go.RowKit Go.Maps
set_option maxRecDepth 100000 in
theorem remove_any (p : Nat) (S : Drv) (F : Nat → Prop) (s : ByteArray) (w : World) (hs : s.size ≤ maxLen) (hd : Dr w p S F) (hS : S.Small) :
    Calls Tryz.prog 266 #[.pointer (some ⟨p, 0, none⟩), .string s] w fun e w' =>
      e = .returned (.int .i64 (S.remove s.data.toList).2) ∧ Dr w' p (S.remove s.data.toList).1 (grow F w w') ∧ Touch F w w' := by
  obtain ⟨addr, hd⟩ := hd
  have HF := Lib.hid (find_any p S addr F s w hs hd)
  have HD := Lib.hid hd
  rcases find_cases S s.data.toList with ⟨hf, he⟩ | ⟨i, hf, hg⟩
  · obtain ⟨x, hx⟩ : ∃ x, x = (S.find s.data.toList).2 := ⟨_, rfl⟩
    rw [← hx] at hf he
    have HR : Hid (S.remove s.data.toList = (S, x)) := by unfold Drv.remove; rw [hf]; exact rfl
    rw [hf] at HF
    simp only [ptrO] at HF
    have hne : (x == 0) = false := by rcases he with rfl | rfl <;> rfl
    clear hd hx hf he hS
    rw [HR.out]
    go_enter Tryz.func266, Tryz.ntmps266
    go_wp2_with (go_at_call 67; refine HF.out.mono ?_; rintro e w' ⟨rfl, rfl⟩)
    go_ret
    exact ⟨rfl, ⟨_, HD.out.mono fun k h => .inl h⟩, Touch.refl _ _⟩
  · have HR : Hid (S.remove s.data.toList = (S.change [(s.data.toList, none)], 0)) := by unfold Drv.remove; rw [hf]; exact rfl
    rw [hf] at HF
    simp only [ptrO] at HF
    have HC := Lib.hid (change_new p S addr F [(s.data.toList, none)] w #[.string s, .pointer none] rfl hd hS (by intro x hx; simp at hx; subst hx; exact ⟨by rw [len_size]; exact hs, fun i hi => by cases hi⟩) (by simp))
    clear hd hf hg hS
    rw [HR.out]
    go_enter Tryz.func266, Tryz.ntmps266
    go_wp2_with (first
      | (go_at_call 67; refine HF.out.mono ?_; rintro e w' ⟨rfl, rfl⟩)
      | (go_at_call 270; refine HC.out.mono ?_; rintro e w3 ⟨rfl, hd3, ht3⟩; have HD3 := Lib.hid hd3; have HT3 := Lib.hid ht3; clear hd3 ht3))
    go_ret
    exact ⟨rfl, HD3.out, HT3.out⟩
theorem wremove_any (q p : Nat) (X : Wnd) (S : Drv) (F : Nat → Prop) (s : ByteArray) (w : World) (hs : s.size ≤ maxLen) (h : WD w q p X S F) (hX : X.Ok) (hS : S.Small) :
    Calls Tryz.prog 259 #[.pointer (some ⟨q, 0, none⟩), .string s] w fun e w' =>
      e = .returned (.int .i64 (wcall X S false (S.remove s.data.toList)).2.2) ∧ WD w' q p (wcall X S false (S.remove s.data.toList)).1 (wcall X S false (S.remove s.data.toList)).2.1 (grow F w w') ∧ Touch F w w' := by
  obtain ⟨FW, FD, hA, hF⟩ := h
  have HA := Lib.hid hA
  have HFF := Lib.hid hF
  have HK := Lib.hid (struck_any q _ X FW false w hA.wn hX)
  have HSM := Lib.hid hS
  clear hA hX hS
  by_cases he : (X.struck false).2.1 = 0
  · have hr : wcall X S false (S.remove s.data.toList) = ((X.struck false).1, (S.remove s.data.toList).1, (S.remove s.data.toList).2) := by unfold wcall; rw [if_pos he]
    have HR := Lib.hid hr; clear hr
    rw [HR.out]
    have HE := Lib.hid he; clear he
    go_enter Tryz.func259, Tryz.ntmps259
    go_wp2_with (first
      | (go_at_call 64; refine HK.out.mono ?_; rintro e w1 ⟨rfl, hw1, ht1⟩; rw [HE.out]; have q0 : w1.cell? ⟨q, 0, none⟩ = some (.pointer (some ⟨p, 0, none⟩)) := head_cell hw1; have HW1 := Lib.hid hw1; have HT1 := Lib.hid ht1; have HA1 : Hid (Apart w1 q p _ S FW FD) := Lib.hid (HA.out.wound hw1 ht1); clear hw1 ht1)
      | (go_at_call 266; refine (remove_any p S FD s w1 hs HA1.out.dr HSM.out).mono ?_; rintro e w2 ⟨rfl, hd2, ht2⟩; have HD2 := Lib.hid hd2; have HT2 := Lib.hid ht2; clear hd2 ht2))
    go_ret
    exact ⟨rfl, both_steps HA.out HFF.out HW1.out HT1.out HD2.out HT2.out⟩
  · obtain ⟨z, hz⟩ : ∃ z, z = (X.struck false).2.1 := ⟨_, rfl⟩
    have hr : wcall X S false (S.remove s.data.toList) = ((X.struck false).1, S, z) := by unfold wcall; rw [if_neg he, hz]
    have HR := Lib.hid hr; clear hr
    rw [HR.out]
    have HZ := Lib.hid hz
    have hne : (z != 0) = true := by rw [hz]; simpa using he
    clear he hz
    go_enter Tryz.func259, Tryz.ntmps259
    go_wp2_with (go_at_call 64; refine HK.out.mono ?_; rintro e w1 ⟨rfl, hw1, ht1⟩; rw [← HZ.out]; have HW1 := Lib.hid hw1; have HT1 := Lib.hid ht1; clear hw1 ht1)
    go_ret
    exact ⟨rfl, wound_step HA.out HFF.out HW1.out HT1.out⟩
end Go.Proofs.YtcbebefdbdppdaaGreat
namespace Go.Proofs.YtcbebefdbdppdaaGreat
open Go.RowKit Go.Maps
def lookE (s : List UInt8) : Int := if named s = true ∧ s ≠ [116] then 0 else 91
theorem named_iff (s : List UInt8) : named s = true ↔ 1 ≤ s.length ∧ s.length ≤ 1024 := by unfold named; rw [decide_eq_true_eq]
theorem look_any (q : Addr) (s : List UInt8) (w : World) (hs : s.length ≤ maxLen) : Calls Tryz.prog 124 #[.iface 36 (.pointer (some q)), .string ⟨s.toArray⟩] w fun e w' => e = .returned (.int .i64 (lookE s)) ∧ w = w' := by
  unfold maxLen at hs
  by_cases h0 : s = []
  · subst h0
    have h : lookE [] = 91 := by decide
    rw [h]
    go_enter Tryz.func124, Tryz.ntmps124
    go_wp2
    go_ret
    exact ⟨rfl, rfl⟩
  have hpos : 1 ≤ s.length := by cases s with
    | nil => exact absurd rfl h0
    | cons a l => simp only [List.length_cons]; omega
  have hz : s.isEmpty = false := by cases s with
    | nil => exact absurd rfl h0
    | cons a l => rfl
  by_cases h1 : s.length ≤ 1024
  · by_cases ht : s = [116]
    · subst ht
      have h : lookE [116] = 91 := by decide
      rw [h]
      go_enter Tryz.func124, Tryz.ntmps124
      go_wp2
      go_ret
      exact ⟨rfl, rfl⟩
    · have h : lookE s = 0 := if_pos ⟨(named_iff s).2 ⟨hpos, h1⟩, ht⟩
      rw [h]
      have ht' : (s == [116]) = false := by rw [beq_eq_false_iff_ne]; exact ht
      have hl : decide ((1024 : Int) < (s.length : Int)) = false := by rw [decide_eq_false_iff_not]; omega
      clear h ht h1 hpos h0
      go_enter Tryz.func124, Tryz.ntmps124
      go_wp2
      go_ret
      exact ⟨rfl, rfl⟩
  · have h : lookE s = 91 := if_neg fun hh => h1 ((named_iff s).1 hh.1).2
    rw [h]
    have hl : decide ((1024 : Int) < (s.length : Int)) = true := by rw [decide_eq_true_eq]; omega
    clear h h1 hpos h0
    go_enter Tryz.func124, Tryz.ntmps124
    go_wp2
    go_ret
    exact ⟨rfl, rfl⟩
end Go.Proofs.YtcbebefdbdppdaaGreat
