/- Labels compared; the law's sample; Parse of any list. -/
import Derived.Test.YtdiaihpilniikaaKn
namespace Go.Proofs.Ytdiaihpilniikaa
open Go.RowKit Go.Maps
set_option maxRecDepth 100000 in
theorem lab_same (l : Lab) (hl : l.st.length = 8) (W : World) : (Op.equalIn 10000 26 (labV l) (labV l)).run Try.prog W = .ok true W := by
  obtain ⟨a0, a1, a2, a3, a4, a5, a6, a7, hst⟩ := lab_eight hl
  have e1 : labV l = .agg #[.int .u8 (a0.toNat : Int), .int .u8 (a1.toNat : Int), .int .u8 (a2.toNat : Int), .int .u8 (a3.toNat : Int), .int .u8 (a4.toNat : Int), .int .u8 (a5.toNat : Int), .int .u8 (a6.toNat : Int), .int .u8 (a7.toNat : Int), .int .i64 l.k, .int .i64 l.m, .int .i64 l.b, .int .i64 l.i, .int .i64 l.e] := by
    unfold labV labCells; rw [hst]; rfl
  rw [e1]
  have hp : Try.prog.stoodInHeld 26 = false := by kernel_rfl
  have hp2 : Try.prog.stoodInHeld 24 = false := by kernel_rfl
  have ht : Try.prog.underlying 26 = some (.struct (Try.prog.fieldsOf 26)) := by simp [Program.fieldsOf, Try.underlying26]
  have ht2 : Try.prog.underlying 24 = some (.struct (Try.prog.fieldsOf 24)) := by simp [Program.fieldsOf, Try.underlying24]
  have g1 : ∀ W, (isAgg 22).run Try.prog W = .ok true W := fun W => by kernel_rfl
  have g2 : ∀ W, (isAgg 24).run Try.prog W = .ok true W := fun W => by kernel_rfl
  have g3 : ∀ W, (isAgg 3).run Try.prog W = .ok false W := fun W => by kernel_rfl
  have z1 : ∀ W, (sizeOf 22).run Try.prog W = .ok 8 W := fun W => by kernel_rfl
  have z2 : ∀ W, (sizeOf 24).run Try.prog W = .ok 3 W := fun W => by kernel_rfl
  have hb : (Op.equalIn 9999 22 (.agg #[.int .u8 (a0.toNat : Int), .int .u8 (a1.toNat : Int), .int .u8 (a2.toNat : Int), .int .u8 (a3.toNat : Int), .int .u8 (a4.toNat : Int), .int .u8 (a5.toNat : Int), .int .u8 (a6.toNat : Int), .int .u8 (a7.toNat : Int)]) (.agg #[.int .u8 (a0.toNat : Int), .int .u8 (a1.toNat : Int), .int .u8 (a2.toNat : Int), .int .u8 (a3.toNat : Int), .int .u8 (a4.toNat : Int), .int .u8 (a5.toNat : Int), .int .u8 (a6.toNat : Int), .int .u8 (a7.toNat : Int)])).run Try.prog W = .ok true W := by
    have := run_equalIn_bytes (P := Try.prog) W 9997 22 5 8 Try.underlying22 Try.underlying5 (fun w => by kernel_rfl) [a0, a1, a2, a3, a4, a5, a6, a7] [a0, a1, a2, a3, a4, a5, a6, a7] rfl rfl
    rw [beq_self_eq_true] at this
    exact this
  have hs : (Op.equalIn 9999 24 (.agg #[.int .i64 l.k, .int .i64 l.m, .int .i64 l.b]) (.agg #[.int .i64 l.k, .int .i64 l.m, .int .i64 l.b])).run Try.prog W = .ok true W := by
    rw [run_equalIn_agg W 9998 24 _ _ ht2 hp2]
    simp [Program.fieldsOf, Try.underlying24, Op.eqFields, part, g3, run_equalIn_int W 9997 3 .i64 .i64 _ _ Try.underlying3]
  have hi : (Op.equalIn 9999 3 (.int .i64 l.i) (.int .i64 l.i)).run Try.prog W = .ok (l.i == l.i) W := run_equalIn_int W 9998 3 .i64 .i64 _ _ Try.underlying3
  have he : (Op.equalIn 9999 3 (.int .i64 l.e) (.int .i64 l.e)).run Try.prog W = .ok (l.e == l.e) W := run_equalIn_int W 9998 3 .i64 .i64 _ _ Try.underlying3
  rw [run_equalIn_agg W 9999 26 _ _ ht hp]
  simp [Program.fieldsOf, Try.underlying26, Op.eqFields, part, g1, g2, g3, z1, z2, hb, hs, hi, he]
theorem lab_eql (l : Lab) (hl : l.st.length = 8) (W : World) : (binOp .eql 26 (labV l) (labV l)).run Try.prog W = .ok (.bool true) W := by
  have h := lab_same l hl W
  unfold labV at h ⊢
  rw [run_eql_struct, h]; rfl
theorem lab_neq (l : Lab) (hl : l.st.length = 8) (W : World) : (binOp .neq 26 (labV l) (labV l)).run Try.prog W = .ok (.bool false) W := by
  have h := lab_same l hl W
  unfold labV at h ⊢
  rw [run_neq_struct, h]; rfl

/-- The law's own label. -/
def sampleL : Lab := ⟨[1, 2, 3, 4, 5, 6, 7, 8], 2, 1, 4, 2, 258⟩
theorem sample_any (w : World) : Calls Try.prog 12 #[] w fun e w' => e = .returned (labV sampleL) ∧ Below w.heap.size w w' := by
  have h : labV sampleL = .agg #[.int .u8 1, .int .u8 2, .int .u8 3, .int .u8 4, .int .u8 5, .int .u8 6, .int .u8 7, .int .u8 8, .int .i64 2, .int .i64 1, .int .i64 4, .int .i64 2, .int .i64 258] := rfl
  rw [h]
  clear h
  go_enter Try.func12, Try.ntmps12
  go_wp2
  refine bodyPost_ret (v := .agg #[.int .u8 1, .int .u8 2, .int .u8 3, .int .u8 4, .int .u8 5, .int .u8 6, .int .u8 7, .int .u8 8, .int .i64 2, .int .i64 1, .int .i64 4, .int .i64 2, .int .i64 258]) (by simp only [results, Try.results12]; go_simp) rfl ⟨rfl, ?_⟩
  exact (Below.refl _ w).alloc (Nat.le_refl _) _
theorem parse_any (A : Option Addr) (n c : Nat) (bs : List UInt8) (w : World) (B : Nat) (hx : Reads w B 1 A n (bs.map B8)) (hB : B ≤ w.heap.size) (hc : n ≤ c) (hA : n = 31 → ∃ g, A = some ⟨g, 0, none⟩) :
    Calls Try.prog 17 #[.slice A n c] w fun e w' => e = .returned (.tuple #[labV (Lab.parse bs).1, .int .i64 (Lab.parse bs).2]) ∧ Below w.heap.size w w' := by
  have hl : bs.length = n := by have := hx.1; simpa using this
  by_cases hn : n = 31
  · obtain ⟨g, rfl⟩ := hA hn
    subst hn
    by_cases hM : bs.take 4 = labMagic
    · exact parse_right g c bs w B hx hB hc hM
    · rw [Lab.parse_bad fun h => hM h.2.1]
      exact parse_magic g c bs w B hx hB hc hM
  · rw [Lab.parse_bad fun h => hn (hl.symm.trans h.1)]
    exact parse_short A n c w hn
end Go.Proofs.Ytdiaihpilniikaa
