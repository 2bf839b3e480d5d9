/- A reader of bytes: take, reading, Take, Bytes, End. -/
import Derived.Test.YtdiaihpilniikaaKc
import Derived.Defers
import Derived.Recover
import Derived.IntWalk
import Derived.BigQuiet
import Derived.Deep.QuietTactic
namespace Go.Proofs.Ytdiaihpilniikaa
open Go.RowKit Go.Maps

theorem must_any (e : Int) (w : World) : Calls Try.prog 52 #[.bool true, .int .i64 e] w fun e w' => e = .returned (.tuple #[]) ∧ w' = w := by
  go_enter Try.func52, Try.ntmps52
  go_wp2
  go_end0
  exact ⟨rfl, rfl⟩

set_option maxRecDepth 100000 in
set_option maxHeartbeats 4000000 in
/-- The next m bytes. -/
theorem take_any (r g n c p m : Nat) (w : World) (h : Blk w r 82 #[.slice (some ⟨g, 0, none⟩) n c, .int .i64 (p : Int), .int .i64 0]) (hp : p + m ≤ n) (hnc : n ≤ c) (hn : n ≤ 1000000) (hm : 0 < m) :
    Calls Try.prog 53 #[.pointer (some ⟨r, 0, none⟩), .int .u64 (m : Int)] w fun e w' => e = .returned (.slice (some ⟨g, p, none⟩) m (c - p)) ∧ ∃ k, w' = (w.drewN k).setCell ⟨r, 1, none⟩ (.int .i64 ((p + m : Nat) : Int)) := by
  have f0 := h.cell 0
  have f1 := h.cell 1
  have f2 := h.cell 2
  have ff := h.frozen
  have hw1 : wrap64 ((n : Int) - p) = (n : Int) - p := IntWalk.wrap64_in _ (by omega)
  have hw2 : wrap64 ((p : Int) + m) = ((p + m : Nat) : Int) := by rw [IntWalk.wrap64_in _ (by omega)]; rfl
  have hw3 : ((n : Int) - p) % 18446744073709551616 = (n : Int) - p := by omega
  have hle : (m : Int) ≤ (n : Int) - p := by omega
  have hw4 : wrap64 (m : Int) = (m : Int) := IntWalk.wrap64_in _ (by omega)
  have hb1 : (0 : Int) ≤ (p : Int) := Int.natCast_nonneg _
  have hb2 : (p : Int) ≤ ((p + m : Nat) : Int) := by omega
  have hb3 : ((p + m : Nat) : Int) ≤ (c : Int) := by omega
  have hpm : p + m - p = m := by omega
  clear h
  go_enter Try.func53, Try.ntmps53
  go_wp2_with fail
  go_quiet ((go_at_call 52; refine Calls.quiet_of_same (must_any _ _)))
  go_wp2_with fail
  go_quiet (fail)
  go_wp2
  go_ret
  refine ⟨?_, _, rfl⟩
  show Ending.returned (.slice _ (p + m - p) _) = _
  rw [hpm]

set_option maxRecDepth 100000 in
/-- What stands ready behind a reading: nothing was given up. -/
theorem rescue_idle (a b : Addr) (w : World) :
    CallsD Try.prog 64 #[.pointer (some a), .pointer (some b)] .returning w fun e u' w' => e = .returned (.tuple #[]) ∧ u' = .returning ∧ w' = w := by
  have hta : ∀ W : World, (Instr.typeAssert .nilIface 20 27 true).run Try.prog W = .ok (.tuple #[.int .i64 0, .bool false]) W := fun _ => by kernel_rfl
  refine callsD_of_wpS Try.func64 rfl fun c₀ cs hu => ?_
  apply wpS_seq
  apply wpS_region
  simp [wpOpsS, go_sem, recoverD, hu, hta, Try.ntmps64, Exit.thenS]
  apply wpS_seq
  apply wpS_region
  simp [wpOpsS, go_sem, Exit.thenS]
  refine wpS_cond (t := false) (by simp [Act.eval]) ?_
  simp only [Bool.false_eq_true, if_false]
  refine wpS_of_wp (wp_skip ?_)
  cases c₀
  simp_all [bodyPostS, results, Try.results64]
end Go.Proofs.Ytdiaihpilniikaa
