/- Numbers as bytes: how many bytes a kind has.; A reader of bytes: take, reading, Take, Bytes, End.; A reading that gives nothing up: what it does is done. -/
import Derived.Test.YtdiaihpilniikaaGreatM12
import Derived.Laws.BitsAllLaws
import Derived.Laws.Shifts
import Derived.Defers
import Derived.Recover
import Derived.IntWalk
import Derived.BigQuiet
import Derived.Deep.QuietTactic
namespace Go.Proofs.YtdiaihpilniikaaGreat
open Go.RowKit Go.Maps

set_option maxRecDepth 100000 in
theorem len64_8 (w : World) : Calls Tryz.prog 86 #[.int .u64 255] w fun e w' => e = .returned (.int .i64 8) ∧ w = w' := by
  go_enter Tryz.func86, Tryz.ntmps86
  go_wp2
  go_ret
  refine ⟨?_, rfl⟩
  kernel_rfl
set_option maxRecDepth 100000 in
theorem len64_32 (w : World) : Calls Tryz.prog 86 #[.int .u64 4294967295] w fun e w' => e = .returned (.int .i64 32) ∧ w = w' := by
  go_enter Tryz.func86, Tryz.ntmps86
  go_wp2
  go_ret
  refine ⟨?_, rfl⟩
  kernel_rfl
set_option maxRecDepth 100000 in
theorem len64_64 (w : World) : Calls Tryz.prog 86 #[.int .u64 18446744073709551615] w fun e w' => e = .returned (.int .i64 64) ∧ w = w' := by
  go_enter Tryz.func86, Tryz.ntmps86
  go_wp2
  go_ret
  refine ⟨?_, rfl⟩
  kernel_rfl
theorem width8_any (w : World) : Calls Tryz.prog 76 #[] w fun e w' => e = .returned (.int .i64 1) ∧ w = w' := by
  have hsg : IntKind.u8.signed = false := rfl
  have h1 : bits .xor .u8 IntKind.u8.max 0 = 255 := by decide
  go_enter Tryz.func76, Tryz.ntmps76
  go_wp2_with (go_at_call 86; refine (len64_8 _).mono ?_; rintro e w' ⟨rfl, rfl⟩)
  go_ret
  exact ⟨rfl, rfl⟩
theorem width32_any (w : World) : Calls Tryz.prog 68 #[] w fun e w' => e = .returned (.int .i64 4) ∧ w = w' := by
  have hsg : IntKind.u32.signed = false := rfl
  have h1 : bits .xor .u32 IntKind.u32.max 0 = 4294967295 := by decide
  go_enter Tryz.func68, Tryz.ntmps68
  go_wp2_with (go_at_call 86; refine (len64_32 _).mono ?_; rintro e w' ⟨rfl, rfl⟩)
  go_ret
  exact ⟨rfl, rfl⟩
theorem width64_any (w : World) : Calls Tryz.prog 69 #[] w fun e w' => e = .returned (.int .i64 8) ∧ w = w' := by
  have hsg : IntKind.u64.signed = false := rfl
  have h1 : bits .xor .u64 IntKind.u64.max 0 = 18446744073709551615 := by decide
  go_enter Tryz.func69, Tryz.ntmps69
  go_wp2_with (go_at_call 86; refine (len64_64 _).mono ?_; rintro e w' ⟨rfl, rfl⟩)
  go_ret
  exact ⟨rfl, rfl⟩
end Go.Proofs.YtdiaihpilniikaaGreat
namespace Go.Proofs.YtdiaihpilniikaaGreat
open Go.RowKit Go.Maps

theorem must_any (e : Int) (w : World) : Calls Tryz.prog 73 #[.bool true, .int .i64 e] w fun e w' => e = .returned (.tuple #[]) ∧ w' = w := by
  go_enter Tryz.func73, Tryz.ntmps73
  go_wp2
  go_end0
  exact ⟨rfl, rfl⟩

set_option maxRecDepth 100000 in
set_option maxHeartbeats 4000000 in
/-- The next m bytes. -/
theorem take_any (r g n c p m : Nat) (w : World) (h : Blk w r 131 #[.slice (some ⟨g, 0, none⟩) n c, .int .i64 (p : Int), .int .i64 0]) (hp : p + m ≤ n) (hnc : n ≤ c) (hn : n ≤ 1000000) (hm : 0 < m) :
    Calls Tryz.prog 74 #[.pointer (some ⟨r, 0, none⟩), .int .u64 (m : Int)] w fun e w' => e = .returned (.slice (some ⟨g, p, none⟩) m (c - p)) ∧ ∃ k, w' = (w.drewN k).setCell ⟨r, 1, none⟩ (.int .i64 ((p + m : Nat) : Int)) := by
  have f0 := h.cell 0
  have f1 := h.cell 1
  have f2 := h.cell 2
  have ff := h.frozen
  have hw1 : wrap64 ((n : Int) - p) = (n : Int) - p := IntWalk.wrap64_in _ (by omega)
  have hw2 : wrap64 ((p : Int) + m) = ((p + m : Nat) : Int) := by rw [IntWalk.wrap64_in _ (by omega)]; rfl
  have hw3 : ((n : Int) - p) % 18446744073709551616 = (n : Int) - p := by omega
  have hle : (m : Int) ≤ (n : Int) - p := by omega
  have hw4 : wrap64 (m : Int) = (m : Int) := IntWalk.wrap64_in _ (by omega)
  have hb1 : (0 : Int) ≤ (p : Int) := Int.natCast_nonneg _
  have hb2 : (p : Int) ≤ ((p + m : Nat) : Int) := by omega
  have hb3 : ((p + m : Nat) : Int) ≤ (c : Int) := by omega
  have hpm : p + m - p = m := by omega
  clear h
  go_enter Tryz.func74, Tryz.ntmps74
  go_wp2_with fail
  go_quiet ((go_at_call 73; refine Calls.quiet_of_same (must_any _ _)))
  go_wp2_with fail
  go_quiet (fail)
  go_wp2
  go_ret
  refine ⟨?_, _, rfl⟩
  show Ending.returned (.slice _ (p + m - p) _) = _
  rw [hpm]

set_option maxRecDepth 100000 in
/-- What stands ready behind a reading: nothing was given up. -/
theorem rescue_idle (a b : Addr) (w : World) :
    CallsD Tryz.prog 88 #[.pointer (some a), .pointer (some b)] .returning w fun e u' w' => e = .returned (.tuple #[]) ∧ u' = .returning ∧ w' = w := by
  have hta : ∀ W : World, (Instr.typeAssert .nilIface 20 38 true).run Tryz.prog W = .ok (.tuple #[.int .i64 0, .bool false]) W := fun _ => by kernel_rfl
  refine callsD_of_wpS Tryz.func88 rfl fun c₀ cs hu => ?_
  apply wpS_seq
  apply wpS_region
  simp [wpOpsS, go_sem, recoverD, hu, hta, Tryz.ntmps88, Exit.thenS]
  apply wpS_seq
  apply wpS_region
  simp [wpOpsS, go_sem, Exit.thenS]
  refine wpS_cond (t := false) (by simp [Act.eval]) ?_
  simp only [Bool.false_eq_true, if_false]
  refine wpS_of_wp (wp_skip ?_)
  cases c₀
  simp_all [bodyPostS, results, Tryz.results88]
end Go.Proofs.YtdiaihpilniikaaGreat
namespace Go.Proofs.YtdiaihpilniikaaGreat
open Go.RowKit Go.Maps

set_option maxRecDepth 100000 in
set_option maxHeartbeats 4000000 in
theorem reading_bytes (r : Nat) (v : Value) (a : Int) (p0 p1 p2 : Addr) (w : World) (Q : World → Prop) (hr : Blk w r 131 #[v, .int .i64 a, .int .i64 0])
    (hdo : ∀ W, Below w.heap.size w W → Calls Tryz.prog 72 #[.pointer (some p0), .pointer (some p1), .pointer (some p2)] W fun e w' => e = .returned (.tuple #[]) ∧ Q w') :
    Calls Tryz.prog 71 #[.pointer (some ⟨r, 0, none⟩), .func (.func 72) #[] #[.pointer (some p0), .pointer (some p1), .pointer (some p2)]] w fun e w' => e = .returned (.tuple #[]) ∧ Q w' := by
  have hmf : ∀ (fn : Fn) (first cap : Array Value) (w : World), (Instr.makeFunc fn first cap).run Tryz.prog w = .ok (.func fn first cap) w := fun _ _ _ _ => rfl
  have f1 : w.cell? ⟨r, 1, none⟩ = some (.int .i64 a) := hr.cell 1
  have f2 : w.cell? ⟨r, 2, none⟩ = some (.int .i64 0) := hr.cell 2
  have hl := hr.lt
  have HD := Lib.hid hdo
  clear hr hdo
  go_enter_defers Tryz.func71, Tryz.ntmps71
  go_wp2_with (go_at_call 72; refine (HD.out _ (((Below.refl _ w).alloc (Nat.le_refl _) _).alloc (by rw [alloc_size]; omega) _)).mono ?_; rintro e w1 ⟨rfl, hq⟩)
  refine leaves_cons (f := 88) (args := #[.pointer (some ⟨w.heap.size + 1, 0, none⟩), .pointer (some ⟨w.heap.size, 0, none⟩)]) (by simp) (by simp [go_sem]) ?_
  refine (rescue_idle ⟨w.heap.size + 1, 0, none⟩ ⟨w.heap.size, 0, none⟩ w1).mono ?_
  rintro e u' w'' ⟨rfl, rfl, rfl⟩
  simp [Leaves, settle, results, Tryz.results71, go_sem]
  exact hq

set_option maxRecDepth 100000 in
set_option maxHeartbeats 4000000 in
theorem reading_u8 (r : Nat) (v : Value) (a : Int) (p0 p1 : Addr) (w : World) (Q : World → Prop) (hr : Blk w r 131 #[v, .int .i64 a, .int .i64 0])
    (hdo : ∀ W, Below w.heap.size w W → Calls Tryz.prog 75 #[.pointer (some p0), .pointer (some p1)] W fun e w' => e = .returned (.tuple #[]) ∧ Q w') :
    Calls Tryz.prog 71 #[.pointer (some ⟨r, 0, none⟩), .func (.func 75) #[] #[.pointer (some p0), .pointer (some p1)]] w fun e w' => e = .returned (.tuple #[]) ∧ Q w' := by
  have hmf : ∀ (fn : Fn) (first cap : Array Value) (w : World), (Instr.makeFunc fn first cap).run Tryz.prog w = .ok (.func fn first cap) w := fun _ _ _ _ => rfl
  have f1 : w.cell? ⟨r, 1, none⟩ = some (.int .i64 a) := hr.cell 1
  have f2 : w.cell? ⟨r, 2, none⟩ = some (.int .i64 0) := hr.cell 2
  have hl := hr.lt
  have HD := Lib.hid hdo
  clear hr hdo
  go_enter_defers Tryz.func71, Tryz.ntmps71
  go_wp2_with (go_at_call 75; refine (HD.out _ (((Below.refl _ w).alloc (Nat.le_refl _) _).alloc (by rw [alloc_size]; omega) _)).mono ?_; rintro e w1 ⟨rfl, hq⟩)
  refine leaves_cons (f := 88) (args := #[.pointer (some ⟨w.heap.size + 1, 0, none⟩), .pointer (some ⟨w.heap.size, 0, none⟩)]) (by simp) (by simp [go_sem]) ?_
  refine (rescue_idle ⟨w.heap.size + 1, 0, none⟩ ⟨w.heap.size, 0, none⟩ w1).mono ?_
  rintro e u' w'' ⟨rfl, rfl, rfl⟩
  simp [Leaves, settle, results, Tryz.results71, go_sem]
  exact hq

set_option maxRecDepth 100000 in
set_option maxHeartbeats 4000000 in
theorem reading_u32 (r : Nat) (v : Value) (a : Int) (p0 p1 : Addr) (w : World) (Q : World → Prop) (hr : Blk w r 131 #[v, .int .i64 a, .int .i64 0])
    (hdo : ∀ W, Below w.heap.size w W → Calls Tryz.prog 77 #[.pointer (some p0), .pointer (some p1)] W fun e w' => e = .returned (.tuple #[]) ∧ Q w') :
    Calls Tryz.prog 71 #[.pointer (some ⟨r, 0, none⟩), .func (.func 77) #[] #[.pointer (some p0), .pointer (some p1)]] w fun e w' => e = .returned (.tuple #[]) ∧ Q w' := by
  have hmf : ∀ (fn : Fn) (first cap : Array Value) (w : World), (Instr.makeFunc fn first cap).run Tryz.prog w = .ok (.func fn first cap) w := fun _ _ _ _ => rfl
  have f1 : w.cell? ⟨r, 1, none⟩ = some (.int .i64 a) := hr.cell 1
  have f2 : w.cell? ⟨r, 2, none⟩ = some (.int .i64 0) := hr.cell 2
  have hl := hr.lt
  have HD := Lib.hid hdo
  clear hr hdo
  go_enter_defers Tryz.func71, Tryz.ntmps71
  go_wp2_with (go_at_call 77; refine (HD.out _ (((Below.refl _ w).alloc (Nat.le_refl _) _).alloc (by rw [alloc_size]; omega) _)).mono ?_; rintro e w1 ⟨rfl, hq⟩)
  refine leaves_cons (f := 88) (args := #[.pointer (some ⟨w.heap.size + 1, 0, none⟩), .pointer (some ⟨w.heap.size, 0, none⟩)]) (by simp) (by simp [go_sem]) ?_
  refine (rescue_idle ⟨w.heap.size + 1, 0, none⟩ ⟨w.heap.size, 0, none⟩ w1).mono ?_
  rintro e u' w'' ⟨rfl, rfl, rfl⟩
  simp [Leaves, settle, results, Tryz.results71, go_sem]
  exact hq

set_option maxRecDepth 100000 in
set_option maxHeartbeats 4000000 in
theorem reading_u64 (r : Nat) (v : Value) (a : Int) (p0 p1 : Addr) (w : World) (Q : World → Prop) (hr : Blk w r 131 #[v, .int .i64 a, .int .i64 0])
    (hdo : ∀ W, Below w.heap.size w W → Calls Tryz.prog 78 #[.pointer (some p0), .pointer (some p1)] W fun e w' => e = .returned (.tuple #[]) ∧ Q w') :
    Calls Tryz.prog 71 #[.pointer (some ⟨r, 0, none⟩), .func (.func 78) #[] #[.pointer (some p0), .pointer (some p1)]] w fun e w' => e = .returned (.tuple #[]) ∧ Q w' := by
  have hmf : ∀ (fn : Fn) (first cap : Array Value) (w : World), (Instr.makeFunc fn first cap).run Tryz.prog w = .ok (.func fn first cap) w := fun _ _ _ _ => rfl
  have f1 : w.cell? ⟨r, 1, none⟩ = some (.int .i64 a) := hr.cell 1
  have f2 : w.cell? ⟨r, 2, none⟩ = some (.int .i64 0) := hr.cell 2
  have hl := hr.lt
  have HD := Lib.hid hdo
  clear hr hdo
  go_enter_defers Tryz.func71, Tryz.ntmps71
  go_wp2_with (go_at_call 78; refine (HD.out _ (((Below.refl _ w).alloc (Nat.le_refl _) _).alloc (by rw [alloc_size]; omega) _)).mono ?_; rintro e w1 ⟨rfl, hq⟩)
  refine leaves_cons (f := 88) (args := #[.pointer (some ⟨w.heap.size + 1, 0, none⟩), .pointer (some ⟨w.heap.size, 0, none⟩)]) (by simp) (by simp [go_sem]) ?_
  refine (rescue_idle ⟨w.heap.size + 1, 0, none⟩ ⟨w.heap.size, 0, none⟩ w1).mono ?_
  rintro e u' w'' ⟨rfl, rfl, rfl⟩
  simp [Leaves, settle, results, Tryz.results71, go_sem]
  exact hq
end Go.Proofs.YtdiaihpilniikaaGreat
