/- What bytes say: Parse, where the length or the beginning is wrong. -/
import Derived.Test.YtdiaihpilniikaaKl
import Derived.Test.YtdiaihpilniikaaKf
import Derived.Stop.BytesEq
import Derived.Laws.StructEq
import Derived.Deep.RegionHeld3
namespace Go.Proofs.Ytdiaihpilniikaa
open Go.RowKit Go.Maps

theorem magic_neq (a b c d : UInt8) (W : World) : (binOp .neq 56 (.agg #[.int .u8 (a.toNat : Int), .int .u8 (b.toNat : Int), .int .u8 (c.toNat : Int), .int .u8 (d.toNat : Int)]) (.agg #[.int .u8 67, .int .u8 82, .int .u8 78, .int .u8 1])).run Try.prog W = .ok (.bool (!([a, b, c, d] == labMagic))) W := by
  rw [run_neq_struct]
  have h := run_equalIn_bytes (P := Try.prog) W 9998 56 5 4 Try.underlying56 Try.underlying5 (fun w => by kernel_rfl) [a, b, c, d] labMagic rfl rfl
  exact congrArg (fun r => Result.andThen r _) h

/-- The error of what is no label. -/
def zeroLab : Value := .agg #[.int .u8 0, .int .u8 0, .int .u8 0, .int .u8 0, .int .u8 0, .int .u8 0, .int .u8 0, .int .u8 0, .int .i64 0, .int .i64 0, .int .i64 0, .int .i64 0, .int .i64 0]
set_option maxRecDepth 100000 in
set_option maxHeartbeats 4000000 in
theorem parse_short (A : Option Addr) (n c : Nat) (w : World) (hn : n ≠ 31) : Calls Try.prog 17 #[.slice A n c] w fun e w' => e = .returned (.tuple #[labV Lab.zero, .int .i64 150]) ∧ Below w.heap.size w w' := by
  have hne : ((n : Int) != 31) = true := by simp; omega
  have hZ : labV Lab.zero = .agg #[.int .u8 0, .int .u8 0, .int .u8 0, .int .u8 0, .int .u8 0, .int .u8 0, .int .u8 0, .int .u8 0, .int .i64 0, .int .i64 0, .int .i64 0, .int .i64 0, .int .i64 0] := rfl
  rw [hZ]
  clear hZ hn
  go_enter Try.func17, Try.ntmps17
  go_wp2_with fail
  go_quiet (fail)
  go_wp2
  refine bodyPost_ret (v := .tuple #[.agg #[.int .u8 0, .int .u8 0, .int .u8 0, .int .u8 0, .int .u8 0, .int .u8 0, .int .u8 0, .int .u8 0, .int .i64 0, .int .i64 0, .int .i64 0, .int .i64 0, .int .i64 0], .int .i64 150]) (by simp only [results, Try.results17]; go_simp) rfl ⟨rfl, ?_⟩
  repeat (first | with_reducible exact Below.refl _ _ | with_reducible refine Below.setCell ?_ (by simp) _ | with_reducible refine below_drewN ?_ _ | with_reducible refine below_drew1 ?_ | with_reducible refine Below.alloc ?_ (by simp) _)
theorem reads_drop {w : World} {B g n j : Nat} {xs : List Value} (h : Reads w B 1 (some ⟨g, 0, none⟩) n xs) (hj : j < n) : Reads w B 1 (some ⟨g, j, none⟩) (n - j) (xs.drop j) := by
  refine ⟨by rw [List.length_drop, h.1]; omega, fun _ => ⟨_, rfl, ?_, fun i u hu => ?_⟩⟩
  · obtain ⟨ad, e, hb, _⟩ := h.2 (by omega)
    injection e with e; subst e; exact hb
  · obtain ⟨ad, e, hb, hc⟩ := h.2 (by omega)
    injection e with e; subst e
    rw [List.getElem?_drop] at hu
    have := hc (j + i) u hu
    rw [add_plain, Nat.zero_add] at this
    rw [add_plain]; exact this
theorem reads_cells {w : World} {B g n : Nat} {xs : List Value} (h : Reads w B 1 (some ⟨g, 0, none⟩) n xs) {j : Nat} {u : Value} (hu : xs[j]? = some u) : w.cell? ⟨g, j, none⟩ = some u ∧ g < B := by
  have hj : j < n := by have := (List.getElem?_eq_some_iff.1 hu).1; rw [h.1] at this; omega
  obtain ⟨ad, e, hb, hc⟩ := h.2 (by omega)
  injection e with e; subst e
  have := hc j u hu
  rw [add_plain, Nat.zero_add] at this
  exact ⟨this, hb⟩
theorem array4 (a : Addr) (c : Nat) (W : World) : (Instr.arrayAt 56 (.slice (some a) 4 c)).run Try.prog W = .ok (.pointer (some a)) W := by kernel_rfl
theorem array8 (a : Addr) (c : Nat) (W : World) : (Instr.arrayAt 22 (.slice (some a) 8 c)).run Try.prog W = .ok (.pointer (some a)) W := by kernel_rfl
set_option maxRecDepth 100000 in
set_option maxHeartbeats 4000000 in
theorem parse_magic (g c : Nat) (bs : List UInt8) (w : World) (B : Nat) (hx : Reads w B 1 (some ⟨g, 0, none⟩) 31 (bs.map B8)) (hB : B ≤ w.heap.size) (hc : 31 ≤ c) (hM : bs.take 4 ≠ labMagic) : Calls Try.prog 17 #[.slice (some ⟨g, 0, none⟩) 31 c] w fun e w' => e = .returned (.tuple #[labV Lab.zero, .int .i64 150]) ∧ Below w.heap.size w w' := by
  have hl : bs.length = 31 := by have := hx.1; simpa using this
  obtain ⟨x0, x1, x2, x3, t, rfl⟩ : ∃ x0 x1 x2 x3 t, bs = x0 :: x1 :: x2 :: x3 :: t := by
    match bs, hl with
    | x0 :: x1 :: x2 :: x3 :: t, _ => exact ⟨x0, x1, x2, x3, t, rfl⟩
  have hne : (!([x0, x1, x2, x3] == labMagic)) = true := by
    have : ([x0, x1, x2, x3] == labMagic) = false := by
      rw [beq_eq_false_iff_ne]; exact hM
    rw [this]; rfl
  have HQ := Lib.hid (magic_neq x0 x1 x2 x3)
  rw [hne] at HQ
  have hgB := (reads_cells hx (j := 0) rfl).2
  have hgl : g < w.heap.size := by omega
  have HCE : Hid (∀ V : World, V.heap[g]? = w.heap[g]? → V.cell? ⟨g, 0, none⟩ = some (.int .u8 (x0.toNat : Int)) ∧ V.cell? ⟨g, 1, none⟩ = some (.int .u8 (x1.toNat : Int)) ∧ V.cell? ⟨g, 2, none⟩ = some (.int .u8 (x2.toNat : Int)) ∧ V.cell? ⟨g, 3, none⟩ = some (.int .u8 (x3.toNat : Int))) := Lib.hid fun V hV => ⟨(World.cell?_of_block hV).trans (reads_cells hx (j := 0) rfl).1, (World.cell?_of_block hV).trans (reads_cells hx (j := 1) rfl).1, (World.cell?_of_block hV).trans (reads_cells hx (j := 2) rfl).1, (World.cell?_of_block hV).trans (reads_cells hx (j := 3) rfl).1⟩
  have hZ : labV Lab.zero = .agg #[.int .u8 0, .int .u8 0, .int .u8 0, .int .u8 0, .int .u8 0, .int .u8 0, .int .u8 0, .int .u8 0, .int .i64 0, .int .i64 0, .int .i64 0, .int .i64 0, .int .i64 0] := rfl
  have hq := HQ.out
  have hgd : Try.prog.eqGuardType Try.prog.depth 56 = false := by kernel_rfl
  have hc4 : (4 : Int) ≤ (c : Int) := by omega
  have ha4 := array4 ⟨g, 0, none⟩ c
  rw [hZ]
  clear hZ hM hx hl hgB
  go_enter Try.func17, Try.ntmps17
  go_wp2_with fail
  have e0 : (w.alloc (.cells #[.int .u8 0, .int .u8 0, .int .u8 0, .int .u8 0, .int .u8 0, .int .u8 0, .int .u8 0, .int .u8 0, .int .i64 0, .int .i64 0, .int .i64 0, .int .i64 0, .int .i64 0] 26)).heap[g]? = w.heap[g]? := Below.heap_alloc w _ g hgl
  go_region_held3 (fun w' => w'.cell? ⟨g, 0, none⟩ = some (.int .u8 (x0.toNat : Int)) ∧ w'.cell? ⟨g, 1, none⟩ = some (.int .u8 (x1.toNat : Int)) ∧ w'.cell? ⟨g, 2, none⟩ = some (.int .u8 (x2.toNat : Int)) ∧ w'.cell? ⟨g, 3, none⟩ = some (.int .u8 (x3.toNat : Int))) (first | exact HCE.out _ (by first | with_reducible assumption | exact e0) | go_keep)
    (first
      | (go_at_call 28; refine (magic_any _).mono ?_; rintro e w1 ⟨rfl, hb1⟩; have e1 : w1.heap[g]? = w.heap[g]? := (hb1.block g (by show g < (World.alloc w _).heap.size; rw [alloc_size]; omega)).trans e0; have HB1 : Hid (Below w.heap.size w w1) := Lib.hid (Below.trans (below_drew1 ((Below.refl _ w).alloc (Nat.le_refl _) _)) (hb1.mono (by show w.heap.size ≤ (World.alloc w _).heap.size; rw [alloc_size]; omega))); have k1 : Blk w1 w.heap.size 26 #[.int .u8 0, .int .u8 0, .int .u8 0, .int .u8 0, .int .u8 0, .int .u8 0, .int .u8 0, .int .u8 0, .int .i64 0, .int .i64 0, .int .i64 0, .int .i64 0, .int .i64 0] := ((Blk.new w _ _).drew).below hb1 (by show w.heap.size < (World.alloc w _).heap.size; rw [alloc_size]; omega); have y0 : w1.cell? ⟨w.heap.size, 0, none⟩ = some (.int .u8 0) := k1.cell 0; have y1 : w1.cell? ⟨w.heap.size, 1, none⟩ = some (.int .u8 0) := k1.cell 1; have y2 : w1.cell? ⟨w.heap.size, 2, none⟩ = some (.int .u8 0) := k1.cell 2; have y3 : w1.cell? ⟨w.heap.size, 3, none⟩ = some (.int .u8 0) := k1.cell 3; have y4 : w1.cell? ⟨w.heap.size, 4, none⟩ = some (.int .u8 0) := k1.cell 4; have y5 : w1.cell? ⟨w.heap.size, 5, none⟩ = some (.int .u8 0) := k1.cell 5; have y6 : w1.cell? ⟨w.heap.size, 6, none⟩ = some (.int .u8 0) := k1.cell 6; have y7 : w1.cell? ⟨w.heap.size, 7, none⟩ = some (.int .u8 0) := k1.cell 7; have y8 : w1.cell? ⟨w.heap.size, 8, none⟩ = some (.int .i64 0) := k1.cell 8; have y9 : w1.cell? ⟨w.heap.size, 9, none⟩ = some (.int .i64 0) := k1.cell 9; have y10 : w1.cell? ⟨w.heap.size, 10, none⟩ = some (.int .i64 0) := k1.cell 10; have y11 : w1.cell? ⟨w.heap.size, 11, none⟩ = some (.int .i64 0) := k1.cell 11; have y12 : w1.cell? ⟨w.heap.size, 12, none⟩ = some (.int .i64 0) := k1.cell 12; have yf := k1.frozen; clear hb1 k1))
  all_goals
    try go_wp2
    refine bodyPost_ret (v := .tuple #[.agg #[.int .u8 0, .int .u8 0, .int .u8 0, .int .u8 0, .int .u8 0, .int .u8 0, .int .u8 0, .int .u8 0, .int .i64 0, .int .i64 0, .int .i64 0, .int .i64 0, .int .i64 0], .int .i64 150]) (by simp only [results, Try.results17]; go_simp) rfl ⟨rfl, ?_⟩
    repeat (first | with_reducible exact HB1.out | with_reducible refine Below.setCell ?_ (by simp) _ | with_reducible refine below_drewN ?_ _ | with_reducible refine below_drew1 ?_ | with_reducible refine Below.alloc ?_ (by simp) _)
end Go.Proofs.Ytdiaihpilniikaa
