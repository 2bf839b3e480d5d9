/- A reading that gives nothing up: what it does is done. -/
import Derived.Test.YtdiaihpilniikaaKg
namespace Go.Proofs.Ytdiaihpilniikaa
open Go.RowKit Go.Maps

set_option maxRecDepth 100000 in
set_option maxHeartbeats 4000000 in
theorem reading_bytes (r : Nat) (v : Value) (a : Int) (p0 p1 p2 : Addr) (w : World) (Q : World → Prop) (hr : Blk w r 82 #[v, .int .i64 a, .int .i64 0])
    (hdo : ∀ W, Below w.heap.size w W → Calls Try.prog 51 #[.pointer (some p0), .pointer (some p1), .pointer (some p2)] W fun e w' => e = .returned (.tuple #[]) ∧ Q w') :
    Calls Try.prog 50 #[.pointer (some ⟨r, 0, none⟩), .func (.func 51) #[] #[.pointer (some p0), .pointer (some p1), .pointer (some p2)]] w fun e w' => e = .returned (.tuple #[]) ∧ Q w' := by
  have hmf : ∀ (fn : Fn) (first cap : Array Value) (w : World), (Instr.makeFunc fn first cap).run Try.prog w = .ok (.func fn first cap) w := fun _ _ _ _ => rfl
  have f1 : w.cell? ⟨r, 1, none⟩ = some (.int .i64 a) := hr.cell 1
  have f2 : w.cell? ⟨r, 2, none⟩ = some (.int .i64 0) := hr.cell 2
  have hl := hr.lt
  have HD := Lib.hid hdo
  clear hr hdo
  go_enter_defers Try.func50, Try.ntmps50
  go_wp2_with (go_at_call 51; refine (HD.out _ (((Below.refl _ w).alloc (Nat.le_refl _) _).alloc (by rw [alloc_size]; omega) _)).mono ?_; rintro e w1 ⟨rfl, hq⟩)
  refine leaves_cons (f := 64) (args := #[.pointer (some ⟨w.heap.size + 1, 0, none⟩), .pointer (some ⟨w.heap.size, 0, none⟩)]) (by simp) (by simp [go_sem]) ?_
  refine (rescue_idle ⟨w.heap.size + 1, 0, none⟩ ⟨w.heap.size, 0, none⟩ w1).mono ?_
  rintro e u' w'' ⟨rfl, rfl, rfl⟩
  simp [Leaves, settle, results, Try.results50, go_sem]
  exact hq

set_option maxRecDepth 100000 in
set_option maxHeartbeats 4000000 in
theorem reading_u8 (r : Nat) (v : Value) (a : Int) (p0 p1 : Addr) (w : World) (Q : World → Prop) (hr : Blk w r 82 #[v, .int .i64 a, .int .i64 0])
    (hdo : ∀ W, Below w.heap.size w W → Calls Try.prog 54 #[.pointer (some p0), .pointer (some p1)] W fun e w' => e = .returned (.tuple #[]) ∧ Q w') :
    Calls Try.prog 50 #[.pointer (some ⟨r, 0, none⟩), .func (.func 54) #[] #[.pointer (some p0), .pointer (some p1)]] w fun e w' => e = .returned (.tuple #[]) ∧ Q w' := by
  have hmf : ∀ (fn : Fn) (first cap : Array Value) (w : World), (Instr.makeFunc fn first cap).run Try.prog w = .ok (.func fn first cap) w := fun _ _ _ _ => rfl
  have f1 : w.cell? ⟨r, 1, none⟩ = some (.int .i64 a) := hr.cell 1
  have f2 : w.cell? ⟨r, 2, none⟩ = some (.int .i64 0) := hr.cell 2
  have hl := hr.lt
  have HD := Lib.hid hdo
  clear hr hdo
  go_enter_defers Try.func50, Try.ntmps50
  go_wp2_with (go_at_call 54; refine (HD.out _ (((Below.refl _ w).alloc (Nat.le_refl _) _).alloc (by rw [alloc_size]; omega) _)).mono ?_; rintro e w1 ⟨rfl, hq⟩)
  refine leaves_cons (f := 64) (args := #[.pointer (some ⟨w.heap.size + 1, 0, none⟩), .pointer (some ⟨w.heap.size, 0, none⟩)]) (by simp) (by simp [go_sem]) ?_
  refine (rescue_idle ⟨w.heap.size + 1, 0, none⟩ ⟨w.heap.size, 0, none⟩ w1).mono ?_
  rintro e u' w'' ⟨rfl, rfl, rfl⟩
  simp [Leaves, settle, results, Try.results50, go_sem]
  exact hq

set_option maxRecDepth 100000 in
set_option maxHeartbeats 4000000 in
theorem reading_u32 (r : Nat) (v : Value) (a : Int) (p0 p1 : Addr) (w : World) (Q : World → Prop) (hr : Blk w r 82 #[v, .int .i64 a, .int .i64 0])
    (hdo : ∀ W, Below w.heap.size w W → Calls Try.prog 56 #[.pointer (some p0), .pointer (some p1)] W fun e w' => e = .returned (.tuple #[]) ∧ Q w') :
    Calls Try.prog 50 #[.pointer (some ⟨r, 0, none⟩), .func (.func 56) #[] #[.pointer (some p0), .pointer (some p1)]] w fun e w' => e = .returned (.tuple #[]) ∧ Q w' := by
  have hmf : ∀ (fn : Fn) (first cap : Array Value) (w : World), (Instr.makeFunc fn first cap).run Try.prog w = .ok (.func fn first cap) w := fun _ _ _ _ => rfl
  have f1 : w.cell? ⟨r, 1, none⟩ = some (.int .i64 a) := hr.cell 1
  have f2 : w.cell? ⟨r, 2, none⟩ = some (.int .i64 0) := hr.cell 2
  have hl := hr.lt
  have HD := Lib.hid hdo
  clear hr hdo
  go_enter_defers Try.func50, Try.ntmps50
  go_wp2_with (go_at_call 56; refine (HD.out _ (((Below.refl _ w).alloc (Nat.le_refl _) _).alloc (by rw [alloc_size]; omega) _)).mono ?_; rintro e w1 ⟨rfl, hq⟩)
  refine leaves_cons (f := 64) (args := #[.pointer (some ⟨w.heap.size + 1, 0, none⟩), .pointer (some ⟨w.heap.size, 0, none⟩)]) (by simp) (by simp [go_sem]) ?_
  refine (rescue_idle ⟨w.heap.size + 1, 0, none⟩ ⟨w.heap.size, 0, none⟩ w1).mono ?_
  rintro e u' w'' ⟨rfl, rfl, rfl⟩
  simp [Leaves, settle, results, Try.results50, go_sem]
  exact hq

set_option maxRecDepth 100000 in
set_option maxHeartbeats 4000000 in
theorem reading_u64 (r : Nat) (v : Value) (a : Int) (p0 p1 : Addr) (w : World) (Q : World → Prop) (hr : Blk w r 82 #[v, .int .i64 a, .int .i64 0])
    (hdo : ∀ W, Below w.heap.size w W → Calls Try.prog 57 #[.pointer (some p0), .pointer (some p1)] W fun e w' => e = .returned (.tuple #[]) ∧ Q w') :
    Calls Try.prog 50 #[.pointer (some ⟨r, 0, none⟩), .func (.func 57) #[] #[.pointer (some p0), .pointer (some p1)]] w fun e w' => e = .returned (.tuple #[]) ∧ Q w' := by
  have hmf : ∀ (fn : Fn) (first cap : Array Value) (w : World), (Instr.makeFunc fn first cap).run Try.prog w = .ok (.func fn first cap) w := fun _ _ _ _ => rfl
  have f1 : w.cell? ⟨r, 1, none⟩ = some (.int .i64 a) := hr.cell 1
  have f2 : w.cell? ⟨r, 2, none⟩ = some (.int .i64 0) := hr.cell 2
  have hl := hr.lt
  have HD := Lib.hid hdo
  clear hr hdo
  go_enter_defers Try.func50, Try.ntmps50
  go_wp2_with (go_at_call 57; refine (HD.out _ (((Below.refl _ w).alloc (Nat.le_refl _) _).alloc (by rw [alloc_size]; omega) _)).mono ?_; rintro e w1 ⟨rfl, hq⟩)
  refine leaves_cons (f := 64) (args := #[.pointer (some ⟨w.heap.size + 1, 0, none⟩), .pointer (some ⟨w.heap.size, 0, none⟩)]) (by simp) (by simp [go_sem]) ?_
  refine (rescue_idle ⟨w.heap.size + 1, 0, none⟩ ⟨w.heap.size, 0, none⟩ w1).mono ?_
  rintro e u' w'' ⟨rfl, rfl, rfl⟩
  simp [Leaves, settle, results, Try.results50, go_sem]
  exact hq
end Go.Proofs.Ytdiaihpilniikaa
