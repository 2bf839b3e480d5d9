/- The law's helper 'known': the chapter's own rows. -/
import Derived.Test.YtdmcjomcbhdcbaaLh
namespace Go.Proofs.Ytdmcjomcbhdcbaa
open Go.RowKit Go.Maps

theorem wlit_any (q p : Nat) (X : Wnd) (S : Drv) (F : Nat → Prop) (w : World) (h : WD w q p X S F) :
    Calls Try.prog 28 #[.pointer (some ⟨q, 0, none⟩)] w fun e w' => e = .returned (.bool X.lit) ∧ w = w' := by
  obtain ⟨pv, fq, h, _⟩ := h.wn
  exact lit_any q _ X pv fq w h

namespace Kn
def S0 : Drv := Drv.new 100
def S1 : Drv := (S0.create [97]).1
def S2 : Drv := (S1.append [97] [1, 2, 3]).1
def k1 : Wnd := ⟨false, false, [], 1, 1, none⟩
def k2 : Wnd := ⟨false, false, [], 2, 2, none⟩
def k3 : Wnd := ⟨false, false, [(1, 1), (0, 2)], 0, 2, none⟩
def k4 : Wnd := ⟨false, false, [(1, 1), (0, 2)], 1, 3, none⟩
def k5 : Wnd := ⟨false, false, [(1, 1), (0, 2)], 2, 4, none⟩
def k6 : Wnd := ⟨true, false, [(1, 1), (0, 2)], 2, 4, none⟩
def k8 : Wnd := ⟨false, true, [(1, 1), (0, 2)], 2, 4, none⟩
theorem c1 : wcall Wnd.new S0 true (S0.create [97]) = (k1, S1, 0) := by rfl
theorem c2 : wappend k1 S1 [97] [1, 2, 3] = (k2, S2, 0) := by rfl
theorem c3 : k2.arm [(1, 1), (0, 2)] = k3 := by rfl
theorem c4 : wread k3 (S2.read [97]) = (k4, [1, 2, 3], 0) := by rfl
theorem c5 : wread k4 (S2.read [97]) = (k5, [], 120) := by rfl
theorem c6 : ({ k5 with down := !false } : Wnd) = k6 := by rfl
theorem c7 : wcall k6 S2 false (S2.sync [97]) = (k6, S2, 122) := by rfl
theorem c8 : ({ k6 with down := !true } : Wnd) = k5 := by rfl
theorem c9 : ({ k5 with away := true } : Wnd) = k8 := by rfl
theorem c10 : wcall k8 S2 false (S2.sync [97]) = (k8, S2, 121) := by rfl
theorem i0 : S0.Inv 0 := Drv.new_inv 100 0 (by omega) (by omega)
theorem r0 : S0.room = 100 := rfl
theorem i1 : S1.Inv 1 := Drv.create_inv i0 _ (by rw [r0]; omega)
theorem r1 : S1.room = 100 := rfl
theorem i2 : S2.Inv 2 := Drv.append_inv i1 _ _ (by rw [r1]; omega)
theorem s0 : S0.Small := i0.small (by omega)
theorem s1 : S1.Small := i1.small (by omega)
theorem s2 : S2.Small := i2.small (by omega)
theorem ok {X : Wnd} (h1 : 0 ≤ X.calls ∧ X.calls ≤ 10) (h2 : 0 ≤ X.round ∧ X.round ≤ 10) (h3 : X.plan.length ≤ 10) (h4 : X.fuse = none) : X.Ok :=
  ⟨⟨h1.1, by omega⟩, ⟨h2.1, by omega⟩, by omega, fun f e => by rw [h4] at e; cases e⟩
theorem o0 : Wnd.new.Ok := ok (by decide) (by decide) (by decide) rfl
theorem o1 : k1.Ok := ok (by decide) (by decide) (by decide) rfl
theorem o3 : k3.Ok := ok (by decide) (by decide) (by decide) rfl
theorem o4 : k4.Ok := ok (by decide) (by decide) (by decide) rfl
theorem o6 : k6.Ok := ok (by decide) (by decide) (by decide) rfl
theorem o8 : k8.Ok := ok (by decide) (by decide) (by decide) rfl
end Kn

theorem reads_bytes (w : World) : Reads (w.alloc (.cells #[.int .u8 1, .int .u8 2, .int .u8 3] 5)) (w.heap.size + 1) 1 (some ⟨w.heap.size, 0, none⟩) 3 (([1, 2, 3] : List UInt8).map B8) :=
  reads_blk (n := 3) (size := 1) (t := 5) (vs := ([1, 2, 3] : List UInt8).map B8) (blk_last w w.heap.size _ _ rfl) (Nat.lt_succ_self _) rfl
theorem reads_plan (w : World) : Reads (w.alloc (.cells #[.int .i64 1, .int .i64 1, .int .i64 0, .int .i64 2] 46)) (w.heap.size + 1) 2 (some ⟨w.heap.size, 0, none⟩) 2 (planCells [(1, 1), (0, 2)]) :=
  reads_blk (n := 2) (size := 2) (t := 46) (vs := planCells [(1, 1), (0, 2)]) (blk_last w w.heap.size _ _ rfl) (Nat.lt_succ_self _) rfl

set_option maxRecDepth 100000 in
set_option maxHeartbeats 4000000 in
theorem known_any (w : World) : Calls Try.prog 12 #[] w fun e w' => e = .returned (.bool true) ∧ Below w.heap.size w w' := by
  go_enter Try.func12, Try.ntmps12
  go_wp2_with fail
  refine (newb_any 100 _ (by omega) (by omega)).mono ?_
  rintro e w1 ⟨p, rfl, hd1, hb1⟩
  have HD1 : Hid (Drb w1 w.heap.size p Kn.S0) := Lib.hid hd1
  have HB1 := Lib.hid hb1
  clear hd1 hb1
  go_wp2_with fail
  refine (wnewb_any w.heap.size p Kn.S0 w1 HB1.out.size HD1.out).mono ?_
  rintro e w2 ⟨q, rfl, hd2, hb2⟩
  have HD2 := Lib.hid hd2
  have HB2 : Hid (Below w.heap.size w w2) := Lib.hid (HB1.out.trans (hb2.mono HB1.out.size))
  clear hd2 hb2
  go_wp2_with fail
  refine (wnew_nil _).mono ?_
  rintro e w' ⟨rfl, rfl⟩
  go_wp2_with fail
  refine (on_any q _ _ _ _ HD2.out.wn).mono ?_
  rintro e w' ⟨rfl, rfl⟩
  rw [show (!Wnd.new.down) = true from rfl]
  go_wp2_with fail
  refine (calls_any q _ _ _ _ HD2.out.wn).mono ?_
  rintro e w' ⟨rfl, rfl⟩
  rw [show Wnd.new.calls = 0 from rfl]
  go_wp2_with fail
  refine (wlit_any q _ _ _ _ _ HD2.out).mono ?_
  rintro e w' ⟨rfl, rfl⟩
  rw [show Wnd.new.lit = false from rfl]
  go_wp2_with fail
  refine (wcreate_any q p Wnd.new Kn.S0 _ ⟨#[97]⟩ _ (by decide) HD2.out Kn.o0 Kn.s0).mono ?_
  rintro e w3 ⟨rfl, hd3, ht3⟩
  rw [show (ByteArray.mk #[97]).data.toList = [97] from rfl, Kn.c1] at hd3 ⊢
  obtain ⟨hd3, hb3⟩ := WDb.step HB2.out.size hd3 ht3
  have HD3 := Lib.hid hd3
  have HB3 : Hid (Below w.heap.size w w3) := Lib.hid (HB2.out.trans hb3)
  clear hd3 hb3 ht3
  go_wp2_with fail
  have hA3 := WD.below (W := w3.alloc (.cells #[.int .u8 1, .int .u8 2, .int .u8 3] 5)) HD3.out ((Below.refl _ _).alloc (Nat.le_refl _) _)
  refine (wappend_any q p Kn.k1 Kn.S1 _ ⟨#[97]⟩ _ (by decide) (some ⟨w3.heap.size, 0, none⟩) 3 [1, 2, 3] ((reads_bytes w3).more (by simp)) (fun ad e hf => by injection e with e; subst e; exact absurd hf.2 (Nat.lt_irrefl _)) (Nat.le_refl _) (by decide) hA3 Kn.o1 Kn.s1).mono ?_
  rintro e w4 ⟨rfl, hd4, ht4⟩
  rw [show (ByteArray.mk #[97]).data.toList = [97] from rfl, Kn.c2] at hd4 ⊢
  obtain ⟨hd4, hb4⟩ := WDb.stepF (fun k hk => ⟨hk.1, by have := hk.2; simp; omega⟩) (by have := HB3.out.size; simp; omega) hd4 ht4
  have HD4 := Lib.hid hd4
  have HB4 : Hid (Below w.heap.size w w4) := Lib.hid ((HB3.out.alloc HB3.out.size _).trans hb4)
  clear hd4 hb4 ht4 hA3
  go_wp2_with fail
  refine (calls_any q _ _ _ _ HD4.out.wn).mono ?_
  rintro e w' ⟨rfl, rfl⟩
  rw [show Kn.k2.calls = 2 from rfl]
  go_wp2_with fail
  have hA4 := WD.below (W := w4.alloc (.cells #[.int .i64 1, .int .i64 1, .int .i64 0, .int .i64 2] 46)) HD4.out ((Below.refl _ _).alloc (Nat.le_refl _) _)
  refine (warm_any q p Kn.k2 Kn.S2 _ (some ⟨w4.heap.size, 0, none⟩) 2 2 [(1, 1), (0, 2)] _ hA4 ((reads_plan w4).more (by simp)) (fun _ ad e hf => by injection e with e; subst e; exact absurd hf.2 (Nat.lt_irrefl _)) (by omega)).mono ?_
  rintro e w5 ⟨rfl, hd5, ht5⟩
  rw [Kn.c3] at hd5
  obtain ⟨hd5, hb5⟩ := WDb.stepF (fun k hk => ⟨hk.1, by have := hk.2; simp; omega⟩) (by have := HB4.out.size; simp; omega) hd5 ht5
  have HD5 := Lib.hid hd5
  have HB5 : Hid (Below w.heap.size w w5) := Lib.hid ((HB4.out.alloc HB4.out.size _).trans hb5)
  clear hd5 hb5 ht5 hA4
  go_wp2_with fail
  refine (wread_any q p Kn.k3 Kn.S2 _ ⟨#[97]⟩ _ (by decide) HD5.out Kn.o3 Kn.s2).mono ?_
  rintro e w6 ⟨v6, rfl, ho6, hd6, ht6⟩
  rw [show (ByteArray.mk #[97]).data.toList = [97] from rfl, Kn.c4] at hd6 ho6 ⊢
  obtain ⟨a6, c6, rfl, _⟩ := own_shape ho6
  have hb6 := ht6.below HB5.out.size fun k hk => hk.1
  have hs56 := ht6.size
  have HD6 : Hid (WD w6 q p Kn.k4 Kn.S2 fun k => w.heap.size ≤ k ∧ k < w5.heap.size) := Lib.hid hd6
  have HO6 : Hid (w6.ownsRow w5.heap.size 5 1 (.slice a6 3 c6) 3 (([1, 2, 3] : List UInt8).map B8)) := Lib.hid ho6
  have HB6 : Hid (Below w.heap.size w w6) := Lib.hid (HB5.out.trans hb6)
  clear hd6 hb6 ht6 ho6
  go_wp2_with fail
  refine (wread_any q p Kn.k4 Kn.S2 _ ⟨#[97]⟩ _ (by decide) HD6.out Kn.o4 Kn.s2).mono ?_
  rintro e w7 ⟨v7, rfl, ho7, hd7, ht7⟩
  rw [show (ByteArray.mk #[97]).data.toList = [97] from rfl, Kn.c5] at hd7 ho7 ⊢
  obtain ⟨a7, c7, rfl, _⟩ := own_shape ho7
  have hb7 := ht7.below HB6.out.size fun k hk => hk.1
  have hs67 := ht7.size
  have HD7 : Hid (WD w7 q p Kn.k5 Kn.S2 fun k => w.heap.size ≤ k ∧ k < w5.heap.size) := Lib.hid hd7
  have HB7 : Hid (Below w.heap.size w w7) := Lib.hid (HB6.out.trans hb7)
  have hrow : w7.ownsRow w5.heap.size 5 1 (.slice a6 3 c6) 3 (([1, 2, 3] : List UInt8).map B8) := row_touch HO6.out ht7 fun k hk => hk.2
  have hcv : (convert 22 9 (.slice a6 3 c6)).run Try.prog w7 = .ok (.string ⟨#[1, 2, 3]⟩) w7 := conv_any _ w7.heap.size a6 [1, 2, 3] c6 (Reads.of_own hrow)
  clear hd7 hb7 ht7 ho7 hrow
  go_wp2_with fail
  refine (wpower_any q p Kn.k5 Kn.S2 _ false _ HD7.out).mono ?_
  rintro e w8 ⟨rfl, hd8, ht8⟩
  rw [Kn.c6] at hd8
  have hb8 := ht8.below HB7.out.size fun k hk => hk.1
  obtain ⟨hd8, _⟩ := WDb.stepF (h := w.heap.size) (fun k hk => ⟨hk.1, by have h1 := hk.2; omega⟩) HB7.out.size hd8 ht8
  have HD8 := Lib.hid hd8
  have HB8 : Hid (Below w.heap.size w w8) := Lib.hid (HB7.out.trans hb8)
  clear hd8 hb8 ht8 hcv
  go_wp2_with fail
  refine (wsync_any q p Kn.k6 Kn.S2 _ ⟨#[97]⟩ _ (by decide) HD8.out Kn.o6 Kn.s2).mono ?_
  rintro e w9 ⟨rfl, hd9, ht9⟩
  rw [show (ByteArray.mk #[97]).data.toList = [97] from rfl, Kn.c7] at hd9 ⊢
  obtain ⟨hd9, hb9⟩ := WDb.step HB8.out.size hd9 ht9
  have HD9 := Lib.hid hd9
  have HB9 : Hid (Below w.heap.size w w9) := Lib.hid (HB8.out.trans hb9)
  clear hd9 hb9 ht9
  go_wp2_with fail
  refine (on_any q _ _ _ _ HD9.out.wn).mono ?_
  rintro e w' ⟨rfl, rfl⟩
  rw [show (!Kn.k6.down) = false from rfl]
  go_wp2_with fail
  refine (calls_any q _ _ _ _ HD9.out.wn).mono ?_
  rintro e w' ⟨rfl, rfl⟩
  rw [show Kn.k6.calls = 2 from rfl]
  go_wp2_with fail
  refine (wpower_any q p Kn.k6 Kn.S2 _ true _ HD9.out).mono ?_
  rintro e w10 ⟨rfl, hd10, ht10⟩
  rw [Kn.c8] at hd10
  obtain ⟨hd10, hb10⟩ := WDb.step HB9.out.size hd10 ht10
  have HD10 := Lib.hid hd10
  have HB10 : Hid (Below w.heap.size w w10) := Lib.hid (HB9.out.trans hb10)
  clear hd10 hb10 ht10
  go_wp2_with fail
  refine (woffline_any q p Kn.k5 Kn.S2 _ true _ HD10.out).mono ?_
  rintro e w11 ⟨rfl, hd11, ht11⟩
  rw [Kn.c9] at hd11
  obtain ⟨hd11, hb11⟩ := WDb.step HB10.out.size hd11 ht11
  have HD11 := Lib.hid hd11
  have HB11 : Hid (Below w.heap.size w w11) := Lib.hid (HB10.out.trans hb11)
  clear hd11 hb11 ht11
  go_wp2_with fail
  refine (wsync_any q p Kn.k8 Kn.S2 _ ⟨#[97]⟩ _ (by decide) HD11.out Kn.o8 Kn.s2).mono ?_
  rintro e w12 ⟨rfl, hd12, ht12⟩
  rw [show (ByteArray.mk #[97]).data.toList = [97] from rfl, Kn.c10] at hd12 ⊢
  obtain ⟨hd12, hb12⟩ := WDb.step HB11.out.size hd12 ht12
  have HD12 := Lib.hid hd12
  have HB12 : Hid (Below w.heap.size w w12) := Lib.hid (HB11.out.trans hb12)
  clear hd12 hb12 ht12
  go_wp2_with fail
  refine (on_any q _ _ _ _ HD12.out.wn).mono ?_
  rintro e w' ⟨rfl, rfl⟩
  rw [show (!Kn.k8.down) = true from rfl]
  go_wp2_with fail
  refine (calls_any q _ _ _ _ HD12.out.wn).mono ?_
  rintro e w' ⟨rfl, rfl⟩
  rw [show Kn.k8.calls = 2 from rfl]
  go_wp2
  go_ret
  exact ⟨rfl, HB12.out⟩
end Go.Proofs.Ytdmcjomcbhdcbaa
