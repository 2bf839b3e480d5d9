/- Read, List of a wound.; What is done with a wound: Calls, On, Offline, Power, Rest, Fuse, New.; The law's helpers: room, twin, files. -/
import Derived.Test.YtcbebefdbdppdaaGreatM8
namespace Go.Proofs.YtcbebefdbdppdaaGreat
open Go.RowKit Go.Maps

def wread (X : Wnd) {α : Type} (r : List α × Int) : Wnd × List α × Int :=
  if (X.struck false).2.1 = 0 then ((X.struck false).1, r.1, r.2) else ((X.struck false).1, [], (X.struck false).2.1)

theorem dr_dra {w : World} {p : Nat} {S : Drv} {F : Nat → Prop} (h : Dr w p S F) : ∃ addr, DrA w p S addr F := h

theorem wread_any (q p : Nat) (X : Wnd) (S : Drv) (F : Nat → Prop) (s : ByteArray) (w : World) (hs : s.size ≤ maxLen) (h : WD w q p X S F) (hX : X.Ok) (hS : S.Small) :
    Calls Tryz.prog 17 #[.pointer (some ⟨q, 0, none⟩), .string s] w fun e w' =>
      ∃ v, e = .returned (.tuple #[v, .int .i64 (wread X (S.read s.data.toList)).2.2]) ∧ w'.ownsRow w.heap.size 5 1 v (wread X (S.read s.data.toList)).2.1.length ((wread X (S.read s.data.toList)).2.1.map B8) ∧
        WD w' q p (wread X (S.read s.data.toList)).1 S F ∧ Touch F w w' := by
  obtain ⟨FW, FD, hA, hF⟩ := h
  have HA := Lib.hid hA
  have HFF := Lib.hid hF
  have HK := Lib.hid (struck_any q _ X FW false w hA.wn hX)
  have HSM := Lib.hid hS
  clear hA hX hS
  by_cases he : (X.struck false).2.1 = 0
  · have hr : wread X (S.read s.data.toList) = ((X.struck false).1, (S.read s.data.toList).1, (S.read s.data.toList).2) := by unfold wread; rw [if_pos he]
    have HR := Lib.hid hr; clear hr
    rw [HR.out]
    have HE := Lib.hid he; clear he
    go_enter Tryz.func17, Tryz.ntmps17
    go_wp2_with (first
      | (go_at_call 64; refine HK.out.mono ?_; rintro e w1 ⟨rfl, hw1, ht1⟩; rw [HE.out]; have q0 : w1.cell? ⟨q, 0, none⟩ = some (.pointer (some ⟨p, 0, none⟩)) := head_cell hw1; have HW1 := Lib.hid hw1; have HT1 := Lib.hid ht1; have hsz1 := ht1.size; have HA1 : Hid (Apart w1 q p _ S FW FD) := Lib.hid (HA.out.wound hw1 ht1); clear hw1 ht1; obtain ⟨addr, hda⟩ := HA1.out.dr; have HDA := Lib.hid hda; clear hda)
      | (go_at_call 65; refine (read_any p S addr FD s w1 hs HDA.out HSM.out.len).mono ?_; rintro e w2 ⟨v, rfl, ho, hb⟩; have HO := Lib.hid ho; have HB := Lib.hid hb; clear ho hb))
    go_ret2
    exact ⟨v, rfl, ownsRow_base_a HO.out hsz1, read_steps HA.out HFF.out HW1.out HT1.out HB.out⟩
  · obtain ⟨z, hz⟩ : ∃ z, z = (X.struck false).2.1 := ⟨_, rfl⟩
    have hr : wread X (S.read s.data.toList) = ((X.struck false).1, [], z) := by unfold wread; rw [if_neg he, hz]
    have HR := Lib.hid hr; clear hr
    rw [HR.out]
    have HZ := Lib.hid hz
    have hne : (z != 0) = true := by rw [hz]; simpa using he
    clear he hz
    go_enter Tryz.func17, Tryz.ntmps17
    go_wp2_with (go_at_call 64; refine HK.out.mono ?_; rintro e w1 ⟨rfl, hw1, ht1⟩; rw [← HZ.out]; have HW1 := Lib.hid hw1; have HT1 := Lib.hid ht1; clear hw1 ht1)
    go_ret2
    exact ⟨_, rfl, World.ownsRow_nil _ _ _ _, wound_step0 HA.out HFF.out HW1.out HT1.out⟩

end Go.Proofs.YtcbebefdbdppdaaGreat
namespace Go.Proofs.YtcbebefdbdppdaaGreat
open Go.RowKit Go.Maps

section
variable {w : World} {q : Nat} {dv : Value} {X : Wnd} {pv : Value} {fq : Option Nat}
theorem WndAt.unfuse (h : WndAt w q dv X pv fq) : WndAt (w.setCell ⟨q, 6, none⟩ (.pointer none)) q dv { X with fuse := none } pv none where
  head := h.head.set_ 6 _
  plan := by
    refine ownsRow_keep h.plan fun k e => Below.heap_setCell _ _ _ _ ?_
    rintro rfl
    exact own_blk_ne h.plan h.head (by decide) e
  none_ := fun _ => rfl
  some_ := fun b e => by cases e
theorem WndAt.burn {b : Nat} (h : WndAt w q dv X pv (some b)) {f : Fz} (hf : X.fuse = some f) : WndAt (w.setCell ⟨b, 0, none⟩ (.int .i64 (f.round - 1))) q dv { X with fuse := some { f with round := f.round - 1 } } pv (some b) := by
  obtain ⟨f2, hf2, hb⟩ := h.some_ b rfl
  have : f2 = f := Option.some.inj (hf2.symm.trans hf)
  rw [this] at hb
  have hne : b ≠ q := hb.ne_ h.head (by decide)
  exact {
    head := h.head.far (Ne.symm hne) _
    plan := by
      refine ownsRow_keep h.plan fun k e => Below.heap_setCell _ _ _ _ ?_
      rintro rfl
      exact own_blk_ne h.plan hb (by decide) e
    none_ := fun e => by cases e
    some_ := fun b' e => by injection e with e; subst e; exact ⟨_, rfl, hb.set_ 0 _⟩ }
end

theorem calls_any (q : Nat) (dv : Value) (X : Wnd) (F : Nat → Prop) (w : World) (h : Wn w q dv X F) :
    Calls Tryz.prog 107 #[.pointer (some ⟨q, 0, none⟩)] w fun e w' => e = .returned (.int .i64 X.calls) ∧ w = w' := by
  obtain ⟨pv, fq, h, _⟩ := h
  have h4 : w.cell? ⟨q, 4, none⟩ = some (.int .i64 X.calls) := h.head.cell 4
  clear h
  go_enter Tryz.func107, Tryz.ntmps107
  go_wp2
  go_ret
  exact ⟨rfl, rfl⟩

theorem offline_any (q : Nat) (dv : Value) (X : Wnd) (F : Nat → Prop) (off : Bool) (w : World) (h : Wn w q dv X F) :
    Calls Tryz.prog 36 #[.pointer (some ⟨q, 0, none⟩), .bool off] w fun e w' => e = .returned (.tuple #[]) ∧ Wn w' q dv { X with away := off } F ∧ Touch F w w' := by
  obtain ⟨pv, fq, h, hF⟩ := h
  have h1 : w.cell? ⟨q, 2, none⟩ = some (.bool X.away) := h.head.cell 2
  have h1f : w.frozen? ⟨q, 2, none⟩ = false := h.head.frozen 2
  have HA := Lib.hid h
  clear h
  go_enter Tryz.func36, Tryz.ntmps36
  go_wp2
  go_end0
  exact ⟨rfl, ⟨_, _, HA.out.turn 2 (.bool off) { X with away := off } rfl rfl rfl, hF⟩, Touch.setCell _ _ _ (hF q (.inl rfl))⟩

theorem power_any (q : Nat) (dv : Value) (X : Wnd) (F : Nat → Prop) (on : Bool) (w : World) (h : Wn w q dv X F) :
    Calls Tryz.prog 37 #[.pointer (some ⟨q, 0, none⟩), .bool on] w fun e w' => e = .returned (.tuple #[]) ∧ Wn w' q dv { X with down := !on } F ∧ Touch F w w' := by
  obtain ⟨pv, fq, h, hF⟩ := h
  have h1 : w.cell? ⟨q, 1, none⟩ = some (.bool X.down) := h.head.cell 1
  have h1f : w.frozen? ⟨q, 1, none⟩ = false := h.head.frozen 1
  have HA := Lib.hid h
  clear h
  go_enter Tryz.func37, Tryz.ntmps37
  go_wp2
  go_end0
  exact ⟨rfl, ⟨_, _, HA.out.turn 1 (.bool (!on)) { X with down := !on } rfl rfl rfl, hF⟩, Touch.setCell _ _ _ (hF q (.inl rfl))⟩

set_option maxHeartbeats 1000000 in
theorem rest_any (q : Nat) (dv : Value) (X : Wnd) (F : Nat → Prop) (off : Bool) (w : World) (h : Wn w q dv X F) (hok : X.Ok) :
    Calls Tryz.prog 91 #[.pointer (some ⟨q, 0, none⟩), .bool off] w fun e w' => e = .returned (.tuple #[]) ∧ Wn w' q dv (X.rest off) F ∧ Touch F w w' := by
  obtain ⟨pv, fq, h, hF⟩ := h
  have h6 : w.cell? ⟨q, 6, none⟩ = some (fuseV fq) := h.head.cell 6
  have h6f : w.frozen? ⟨q, 6, none⟩ = false := h.head.frozen 6
  have h5 : w.cell? ⟨q, 5, none⟩ = some (.int .i64 X.round) := h.head.cell 5
  have h5f : w.frozen? ⟨q, 5, none⟩ = false := h.head.frozen 5
  have h1 : w.cell? ⟨q, 1, none⟩ = some (.bool X.down) := h.head.cell 1
  have h1f : w.frozen? ⟨q, 1, none⟩ = false := h.head.frozen 1
  have HL := Lib.hid (lit_any q dv X pv fq w h)
  have HA := Lib.hid h
  have HF := Lib.hid hF
  have hqF : F q := hF q (.inl rfl)
  obtain ⟨d, hd⟩ : ∃ d, d = X.down := ⟨_, rfl⟩
  rw [← hd] at h1
  have HDN := Lib.hid hd
  clear hF hd
  cases fq with
  | none =>
    have hfn := h.none_ rfl
    have HR : Hid (X.rest off = { X with round := 0, down := X.down || off }) := by unfold Wnd.rest; rw [hfn]; exact rfl
    have HLT : Hid (X.lit = false) := by unfold Wnd.lit; rw [hfn]; exact rfl
    have HFN := Lib.hid hfn
    rw [HR.out]
    simp only [fuseV, Option.map] at h6
    obtain ⟨Y, hY⟩ : ∃ Y : Wnd, Y = { X with round := 0, down := X.down || off } := ⟨_, rfl⟩
    rw [← hY]
    have HY := Lib.hid hY
    have HN : Hid (∀ v : Bool, v = (X.down || off) → WndAt ((w.setCell ⟨q, 5, none⟩ (.int .i64 0)).setCell ⟨q, 1, none⟩ (.bool v)) q dv Y pv none) := by
      refine Lib.hid fun v hv => ?_
      rw [hY, hv]
      exact (h.turn 5 (.int .i64 0) { X with round := 0 } rfl rfl rfl).turn 1 (.bool (X.down || off)) _ rfl rfl rfl
    clear h hfn hY
    go_enter Tryz.func91, Tryz.ntmps91
    go_wp2_with (go_at_call 109; refine HL.out.mono ?_; rintro e w1 ⟨rfl, rfl⟩; rw [HLT.out])
    all_goals (
      go_end0
      exact ⟨rfl, ⟨_, _, HN.out _ (by rw [← HDN.out]; simp [*]), HF.out⟩, (Touch.setCell _ ⟨q, 5, none⟩ _ hqF).trans (Touch.setCell _ ⟨q, 1, none⟩ _ (Or.inl hqF))⟩)
  | some b =>
    obtain ⟨f, hf, hb⟩ := h.some_ b rfl
    simp only [fuseV, Option.map] at h6
    have hfr := hok.fuse f hf
    have hF6 : F b := HF.out b (.inr (.inr rfl))
    by_cases hz : f.round = 0
    · have HLT : Hid (X.lit = true) := Lib.hid (by unfold Wnd.lit; rw [hf]; simp [hz])
      obtain ⟨Y, hY⟩ : ∃ Y : Wnd, Y = { X with round := 0, down := X.down || off, fuse := none } := ⟨_, rfl⟩
      have HR : Hid (X.rest off = Y) := Lib.hid (by rw [hY]; unfold Wnd.rest; rw [hf]; simp [hz])
      rw [HR.out]
      have HN : Hid (∀ v : Bool, v = (X.down || off) → WndAt (((w.setCell ⟨q, 6, none⟩ (.pointer none)).setCell ⟨q, 5, none⟩ (.int .i64 0)).setCell ⟨q, 1, none⟩ (.bool v)) q dv Y pv none) := by
        refine Lib.hid fun v hv => ?_
        rw [hY, hv]
        exact (h.unfuse.turn 5 (.int .i64 0) { X with round := 0, fuse := none } rfl rfl rfl).turn 1 (.bool (X.down || off)) _ rfl rfl rfl
      clear h hf hb hz hY hfr hok
      go_enter Tryz.func91, Tryz.ntmps91
      go_wp2_with (go_at_call 109; refine HL.out.mono ?_; rintro e w1 ⟨rfl, rfl⟩; rw [HLT.out])
      all_goals (
        go_end0
        refine ⟨rfl, ⟨_, _, HN.out _ (by rw [← HDN.out]; simp [*]), fun k hk => HF.out k ?_⟩, ((Touch.setCell _ ⟨q, 6, none⟩ _ hqF).trans (Touch.setCell _ ⟨q, 5, none⟩ _ (Or.inl hqF))).trans (Touch.setCell _ ⟨q, 1, none⟩ _ (Or.inl hqF))⟩
        rcases hk with hk | hk | hk
        · exact .inl hk
        · exact .inr (.inl hk)
        · cases hk)
    · have HLT : Hid (X.lit = false) := Lib.hid (by unfold Wnd.lit; rw [hf]; simp [hz])
      obtain ⟨Y, hY⟩ : ∃ Y : Wnd, Y = { X with round := 0, down := X.down || off, fuse := some { f with round := f.round - 1 } } := ⟨_, rfl⟩
      have HR : Hid (X.rest off = Y) := Lib.hid (by rw [hY]; unfold Wnd.rest; rw [hf]; simp [hz])
      rw [HR.out]
      have HN : Hid (∀ v : Bool, v = (X.down || off) → WndAt (((w.setCell ⟨b, 0, none⟩ (.int .i64 (f.round - 1))).setCell ⟨q, 5, none⟩ (.int .i64 0)).setCell ⟨q, 1, none⟩ (.bool v)) q dv Y pv (some b)) := by
        refine Lib.hid fun v hv => ?_
        rw [hY, hv]
        exact ((h.burn hf).turn 5 (.int .i64 0) { X with round := 0, fuse := some { f with round := f.round - 1 } } rfl rfl rfl).turn 1 (.bool (X.down || off)) _ rfl rfl rfl
      have hb0 : w.cell? ⟨b, 0, none⟩ = some (.int .i64 f.round) := hb.cell 0
      have hb0f : w.frozen? ⟨b, 0, none⟩ = false := hb.frozen 0
      have hbq : b ≠ q := hb.ne_ h.head (by decide)
      clear h hf hb hY hok
      go_enter Tryz.func91, Tryz.ntmps91
      go_wp2_with (go_at_call 109; refine HL.out.mono ?_; rintro e w1 ⟨rfl, rfl⟩; rw [HLT.out])
      all_goals (
        go_end0
        exact ⟨rfl, ⟨_, _, HN.out _ (by rw [← HDN.out]; simp [*]), HF.out⟩, ((Touch.setCell _ ⟨b, 0, none⟩ _ hF6).trans (Touch.setCell _ ⟨q, 5, none⟩ _ (Or.inl hqF))).trans (Touch.setCell _ ⟨q, 1, none⟩ _ (Or.inl hqF))⟩)

/-- A new wound: behind its block. -/
theorem wnew_any (p : Nat) (w : World) :
    Calls Tryz.prog 11 #[.pointer (some ⟨p, 0, none⟩)] w fun e w' =>
      e = .returned (.pointer (some ⟨w.heap.size, 0, none⟩)) ∧ Wn w' w.heap.size (.pointer (some ⟨p, 0, none⟩)) Wnd.new (· = w.heap.size) ∧ Below w.heap.size w w' ∧ w'.heap.size = w.heap.size + 1 := by
  go_enter Tryz.func11, Tryz.ntmps11
  go_wp2
  go_ret
  refine ⟨rfl, ⟨.slice none 0 0, none, ⟨Blk.new _ _ _, World.ownsRow_nil _ _ _ _, fun _ => rfl, fun b e => by cases e⟩, ?_⟩, (Below.refl _ _).alloc (Nat.le_refl _) _, alloc_size _ _⟩
  rintro k (h | h | h)
  · exact h
  · simp [Value.ownBlock] at h
  · cases h
theorem wnew_nil (w : World) : Calls Tryz.prog 11 #[.pointer none] w fun e w' => e = .returned (.pointer none) ∧ w = w' := by
  go_enter Tryz.func11, Tryz.ntmps11
  go_wp2
  go_ret
  exact ⟨rfl, rfl⟩
end Go.Proofs.YtcbebefdbdppdaaGreat
namespace Go.Proofs.YtcbebefdbdppdaaGreat
open Go.RowKit Go.Maps

end Go.Proofs.YtcbebefdbdppdaaGreat
