/- WoundNil: the closed Go function answers true: a wound that is not there, a wound without a drive. No condition. -/
import Derived.Test.YtdmcjomcbhdcbaaNi
import Derived.Test.YtdmcjomcbhdcbaaRows
import Derived.WalkKit
import Derived.ProofKit
import Derived.OpenShut
import Derived.ShutString
import Derived.ChangeOld
import Derived.Below
namespace Go.Proofs.Ytdmcjomcbhdcbaa.woundNil
open Go.ChangeShapes Go.WideShapes Go.ChangeAt Go.RowKit Go.Maps
set_option linter.unusedVariables false

theorem lit_wn {q : Nat} {dv : Value} {X : Wnd} {F : Nat → Prop} {w : World} (h : Wn w q dv X F) : Calls Try.prog 28 #[.pointer (some ⟨q, 0, none⟩)] w fun e w' => e = .returned (.bool X.lit) ∧ w = w' := by
  obtain ⟨pv, fq, h, _⟩ := h
  exact lit_any q dv X pv fq w h
def b1 : Wnd := ⟨false, false, [], 1, 1, none⟩
def b2 : Wnd := ⟨false, false, [], 2, 2, none⟩
def b3 : Wnd := ⟨false, false, [], 2, 2, some ⟨0, 2, 5⟩⟩
def b4 : Wnd := ⟨true, false, [], 3, 3, some ⟨0, 2, 5⟩⟩
theorem o0 : Wnd.new.Ok := ⟨by decide, by decide, by decide, fun f e => by cases e⟩
theorem o1 : b1.Ok := ⟨by decide, by decide, by decide, fun f e => by cases e⟩
theorem o3 : b3.Ok := ⟨by decide, by decide, by decide, fun f e => by injection e with e; subst e; decide⟩
theorem x1 : Wnd.new.struck true = (b1, 0, -1) := by rfl
theorem x2 : b1.struck false = (b2, 0, -1) := by rfl
theorem x3 : b2.setFuse 0 2 5 = b3 := by rfl
theorem x4 : b3.struck true = ({ b3.count with down := true }, 122, 5) := by rfl
theorem x5 : ({ b3.count with down := true } : Wnd) = b4 := by rfl

set_option maxRecDepth 100000 in
set_option maxHeartbeats 4000000 in
theorem walk (w : World) : Calls Try.prog 4 #[] w fun e w' => e = .returned (.bool true) ∧ Below w.heap.size w w' := by
  go_enter Try.func4, Try.ntmps4
  go_wp2_with fail
  refine (arm_nil _ _).mono ?_
  rintro e w' ⟨rfl, rfl⟩
  go_wp2_with fail
  refine (wOffline_nil _ _).mono ?_
  rintro e w' ⟨rfl, rfl⟩
  go_wp2_with fail
  refine (fuse_nil _ _ _ _).mono ?_
  rintro e w' ⟨rfl, rfl⟩
  go_wp2_with fail
  refine (wRest_nil _ _).mono ?_
  rintro e w' ⟨rfl, rfl⟩
  go_wp2_with fail
  refine (wPower_nil _ _).mono ?_
  rintro e w' ⟨rfl, rfl⟩
  go_wp2_with fail
  refine (wRead_nil _ _).mono ?_
  rintro e w' ⟨rfl, rfl⟩
  go_wp2_with fail
  refine (wList_nil _).mono ?_
  rintro e w' ⟨rfl, rfl⟩
  go_wp2_with fail
  refine (wCalls_nil _).mono ?_
  rintro e w' ⟨rfl, rfl⟩
  go_wp2_with fail
  refine (lit_nil _).mono ?_
  rintro e w' ⟨rfl, rfl⟩
  go_wp2_with fail
  refine (wOn_nil _).mono ?_
  rintro e w' ⟨rfl, rfl⟩
  go_wp2_with fail
  refine (wCreate_nil _ _).mono ?_
  rintro e w' ⟨rfl, rfl⟩
  go_wp2_with fail
  refine (wAppend_nil _ _ _ _ _).mono ?_
  rintro e w' ⟨rfl, rfl⟩
  go_wp2_with fail
  refine (wSync_nil _ _).mono ?_
  rintro e w' ⟨rfl, rfl⟩
  go_wp2_with fail
  refine (wRename_nil _ _ _).mono ?_
  rintro e w' ⟨rfl, rfl⟩
  go_wp2_with fail
  refine (wRemove_nil _ _).mono ?_
  rintro e w' ⟨rfl, rfl⟩
  go_wp2_with fail
  refine (wSyncDir_nil _).mono ?_
  rintro e w' ⟨rfl, rfl⟩
  obtain ⟨W, hW⟩ : ∃ W, W = ((w.alloc (.cells #[.int .i64 0, .int .i64 1] 46)).alloc (.cells #[.int .u8 1] 5)).alloc (.cells #[.pointer none, .bool false, .bool false, .slice none 0 0, .int .i64 0, .int .i64 0, .pointer none] 57) := ⟨_, rfl⟩
  have HB : Hid (Below w.heap.size w W) := Lib.hid (by rw [hW]; exact (((Below.refl _ w).alloc (Nat.le_refl _) _).alloc (by simp) _).alloc (by simp; omega) _)
  have HS : Hid (W.heap.size = w.heap.size + 3) := Lib.hid (by rw [hW]; simp)
  have HN : Hid (Wn W (w.heap.size + 1 + 1) (.pointer none) Wnd.new (· = w.heap.size + 1 + 1)) := Lib.hid (by
    refine ⟨.slice none 0 0, none, ⟨?_, World.ownsRow_nil _ _ _ _, fun _ => rfl, fun b e => by cases e⟩, ?_⟩
    · rw [hW]
      have := Blk.new ((w.alloc (.cells #[.int .i64 0, .int .i64 1] 46)).alloc (.cells #[.int .u8 1] 5)) 57 #[.pointer none, .bool false, .bool false, .slice none 0 0, .int .i64 0, .int .i64 0, .pointer none]
      rw [alloc_size, alloc_size] at this
      exact this
    · rintro k (h | h | h)
      · exact h
      · simp [Value.ownBlock] at h
      · cases h)
  obtain ⟨q, hq⟩ : ∃ q, q = w.heap.size + 1 + 1 := ⟨_, rfl⟩
  have hql : w.heap.size ≤ q := by omega
  rw [← hq] at HN
  have HQ := Lib.hid hq
  have HW := Lib.hid hW
  clear hW
  go_wp2_with fail
  rw [← HW.out, ← HQ.out]
  clear hq
  refine (on_any q _ _ _ W HN.out).mono ?_
  rintro e w' ⟨rfl, rfl⟩
  rw [show (!Wnd.new.down) = true from rfl]
  go_wp2_with fail
  refine (calls_any q _ _ _ W HN.out).mono ?_
  rintro e w' ⟨rfl, rfl⟩
  rw [show Wnd.new.calls = 0 from rfl]
  go_wp2_with fail
  refine (lit_wn HN.out).mono ?_
  rintro e w' ⟨rfl, rfl⟩
  rw [show Wnd.new.lit = false from rfl]
  go_wp2_with fail
  refine (bare_create q Wnd.new _ _ W HN.out o0 (by rw [x1])).mono ?_
  rintro e w1 ⟨rfl, hn1, ht1⟩
  rw [x1] at hn1
  have HN1 := Lib.hid hn1
  have HB1 : Hid (Below w.heap.size w w1) := Lib.hid (HB.out.trans (ht1.below HB.out.size fun k hk => by rw [hk]; exact hql))
  clear hn1 ht1
  go_wp2_with fail
  refine (bare_syncDir q b1 _ w1 HN1.out o1 (by rw [x2])).mono ?_
  rintro e w2 ⟨rfl, hn2, ht2⟩
  rw [x2] at hn2
  have HN2 := Lib.hid hn2
  have HB2 : Hid (Below w.heap.size w w2) := Lib.hid (HB1.out.trans (ht2.below HB1.out.size fun k hk => by rw [hk]; exact hql))
  have q0 : w2.cell? ⟨q, 0, none⟩ = some (.pointer none) := head_cell hn2
  clear hn2 ht2
  go_wp2_with fail
  refine (calls_any q _ _ _ w2 HN2.out).mono ?_
  rintro e w' ⟨rfl, rfl⟩
  rw [show b2.calls = 2 from rfl]
  go_wp2_with fail
  refine (used_nil _).mono ?_
  rintro e w' ⟨rfl, rfl⟩
  go_wp2_with fail
  refine (fuse_any q _ b2 _ 0 2 5 w2 HN2.out).mono ?_
  rintro e w3 ⟨rfl, hn3, ht3⟩
  rw [x3] at hn3
  have HB3 : Hid (Below w.heap.size w w3) := Lib.hid (HB2.out.trans (ht3.below HB2.out.size fun k hk => by rw [hk]; exact hql))
  have HN3 : Hid (Wn w3 q (.pointer none) b3 fun k => w.heap.size ≤ k) := Lib.hid (hn3.mono fun k hk => by
    have := HB2.out.size
    rcases hk with hk | hk <;> omega)
  clear hn3 ht3 q0
  go_wp2_with fail
  refine (lit_wn HN3.out).mono ?_
  rintro e w' ⟨rfl, rfl⟩
  rw [show b3.lit = true from rfl]
  go_wp2_with fail
  refine (bare_append q b3 _ _ _ (w3.alloc (.cells #[.int .u8 1] 5)) (HN3.out.keep (Touch.of_below (F := fun _ => False) ((Below.refl _ _).alloc (Nat.le_refl _) _)) (fun _ _ h => h)) o3 x4).mono ?_
  rintro e w4 ⟨rfl, hn4, ht4⟩
  rw [x5] at hn4
  have HN4 := Lib.hid hn4
  have HB4 : Hid (Below w.heap.size w w4) := Lib.hid ((HB3.out.alloc HB3.out.size _).trans (ht4.below (by rw [alloc_size]; have := HB3.out.size; omega) fun k hk => hk))
  clear hn4 ht4
  go_wp2_with fail
  refine (on_any q _ _ _ w4 HN4.out).mono ?_
  rintro e w' ⟨rfl, rfl⟩
  rw [show (!b4.down) = false from rfl]
  go_wp2_with fail
  refine (calls_any q _ _ _ w4 HN4.out).mono ?_
  rintro e w' ⟨rfl, rfl⟩
  rw [show b4.calls = 3 from rfl]
  go_wp2_with fail
  refine (known_any w4).mono ?_
  rintro e w5 ⟨rfl, hb5⟩
  have HB5 : Hid (Below w.heap.size w w5) := Lib.hid (HB4.out.trans (hb5.mono HB4.out.size))
  clear hb5
  go_wp2
  go_ret
  exact ⟨rfl, HB5.out⟩

theorem own : ownKnob Try.prog.godebug = none := by kernel_rfl

set_option maxRecDepth 100000 in
theorem lifted (os : Os) (started : os.Started) (H : Type) (enc : TypeId × Value → H) :
    ReturnsInHanded {} Try.checked os 4 .any (Rows.woundNilSpec.pre6 enc Try.prog Try.f4 Rows.woundNilRow.domain false) (Rows.woundNilSpec.post enc Try.prog Try.f4 false true false false) := by
  refine returnsInHanded_of_change (C := Try.checked) own started (by kernel_rfl) Try.func4
    (ChangeSpec.witness6 (enc := enc) (C := Try.checked) false ⟨#[], #[], []⟩ 8 (by kernel_rfl) (by kernel_rfl) (by kernel_rfl) (by kernel_rfl)) ?_
  intro W base args ds gs before hval0 hW hcnd _
  have hW' := hW
  obtain ⟨p, q, hA0, hV, rfl, hfz, hnd⟩ := hW
  have hA : DataW.TrodAll enc Try.prog W 0 (fun _ => true) true Try.f4.params.toList args.toList ds p := hA0
  rw [Try.params4] at hA
  obtain ⟨rfl, rfl, rfl⟩ := trodAll_none hA
  obtain ⟨rfl, rfl⟩ := trodVars_none hV
  clear hA0 hval0
  refine (walk W).mono fun e W' ⟨he, bel⟩ => ?_
  subst he
  exact ⟨_, rfl, _, _, _, [], _, [], hW', trodAll_mk1 (shut_bool Try.underlying4 _), trodAll_mk0, rfl, bel.frame _, fun h => by cases h⟩

theorem over : Rows.woundNilRow.holds Try.pinned (OpenSpec.ofChange Rows.woundNilSpec) :=
  OpenClaim.holds_of_wide 4 Try.f4 rfl rfl rfl rfl rfl rfl rfl ⟨rfl, rfl, rfl, rfl, rfl⟩ rfl rfl rfl rfl rfl (by kernel_rfl) Try.func4 (by kernel_rfl)
    (of_decide_eq_true (by kernel_rfl)) (by unfold Func.isWrapper; first | (rw [if_pos (by decide +kernel)]; kernel_rfl) | (rw [if_neg (by decide +kernel)]; exact ⟨rfl, rfl⟩))
    (fun os started H enc _ => lifted os started H enc)

/-- THE STATEMENT -/
theorem proved : Rows.WoundNilSaid := over
#print axioms proved
end Go.Proofs.Ytdmcjomcbhdcbaa.woundNil
