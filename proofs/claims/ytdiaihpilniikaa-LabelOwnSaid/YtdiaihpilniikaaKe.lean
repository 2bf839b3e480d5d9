/- A label as a value; may it be? -/
import Derived.Test.YtdiaihpilniikaaKd
import Derived.Test.YtdiaihpilniikaaKb
import Derived.IntWalk
namespace Go.Proofs.Ytdiaihpilniikaa
open Go.RowKit Go.Maps

/-- A label as a value. -/
def labCells (l : Lab) : Array Value := (l.st.map B8 ++ ([.int .i64 l.k, .int .i64 l.m, .int .i64 l.b, .int .i64 l.i, .int .i64 l.e] : List Value)).toArray
def labV (l : Lab) : Value := .agg (labCells l)
/-- A label's fields, as a Go value may hold them. -/
structure Lab.Wf (l : Lab) : Prop where
  st : l.st.length = 8
  k : -9223372036854775808 ≤ l.k ∧ l.k ≤ 9223372036854775807
  m : -9223372036854775808 ≤ l.m ∧ l.m ≤ 9223372036854775807

set_option maxRecDepth 100000 in
set_option maxHeartbeats 4000000 in
theorem check_any (l : Lab) (hl : l.Wf) (w : World) : Calls Try.prog 27 #[labV l] w fun e w' => e = .returned (.int .i64 l.may) ∧ Below w.heap.size w w' := by
  obtain ⟨a0, a1, a2, a3, a4, a5, a6, a7, hst⟩ := lab_eight hl.st
  have hk := hl.k
  have hm := hl.m
  obtain ⟨st, k, m, b, i, e⟩ := l
  simp only at hst hk hm
  subst hst
  clear hl
  unfold labV labCells
  simp only [List.map_cons, List.map_nil, List.cons_append, List.nil_append]
  unfold B8
  by_cases g1 : m < 1 ∨ k < m ∨ 255 - m < k ∨ b < 1 ∨ 65536 < b
  · have hmay : Lab.may ⟨[a0, a1, a2, a3, a4, a5, a6, a7], k, m, b, i, e⟩ = 4 := if_pos g1
    rw [hmay]
    clear hmay
    rcases (show m < 1 ∨ (¬m < 1 ∧ k < m) ∨ (¬m < 1 ∧ ¬k < m ∧ 255 - m < k) ∨ (¬m < 1 ∧ ¬k < m ∧ ¬255 - m < k ∧ b < 1) ∨ (¬m < 1 ∧ ¬k < m ∧ ¬255 - m < k ∧ ¬b < 1 ∧ 65536 < b) by omega) with h1 | ⟨h1, h2⟩ | ⟨h1, h2, h3⟩ | ⟨h1, h2, h3, h4⟩ | ⟨h1, h2, h3, h4, h5⟩
    · clear g1
      go_enter Try.func27, Try.ntmps27
      go_wp2
      go_ret
      exact ⟨rfl, ((Below.refl _ w).alloc (Nat.le_refl _) _).alloc (by simp) _⟩
    · clear g1
      go_enter Try.func27, Try.ntmps27
      go_wp2
      go_ret
      exact ⟨rfl, ((Below.refl _ w).alloc (Nat.le_refl _) _).alloc (by simp) _⟩
    · clear g1
      have hw : wrap64 (255 - m) = 255 - m := IntWalk.wrap64_in _ (by omega)
      go_enter Try.func27, Try.ntmps27
      go_wp2
      go_ret
      exact ⟨rfl, ((Below.refl _ w).alloc (Nat.le_refl _) _).alloc (by simp) _⟩
    · clear g1
      have hw : wrap64 (255 - m) = 255 - m := IntWalk.wrap64_in _ (by omega)
      go_enter Try.func27, Try.ntmps27
      go_wp2
      go_ret
      exact ⟨rfl, ((Below.refl _ w).alloc (Nat.le_refl _) _).alloc (by simp) _⟩
    · clear g1
      have hw : wrap64 (255 - m) = 255 - m := IntWalk.wrap64_in _ (by omega)
      go_enter Try.func27, Try.ntmps27
      go_wp2
      go_ret
      exact ⟨rfl, ((Below.refl _ w).alloc (Nat.le_refl _) _).alloc (by simp) _⟩
  · have hs : 1 ≤ m ∧ m ≤ k ∧ k ≤ 255 - m ∧ 1 ≤ b ∧ b ≤ 65536 := by omega
    have h1 : ¬m < 1 := by omega
    have h2 : ¬k < m := by omega
    have h3 : ¬255 - m < k := by omega
    have h4 : ¬b < 1 := by omega
    have h5 : ¬65536 < b := by omega
    have hw : wrap64 (255 - m) = 255 - m := IntWalk.wrap64_in _ (by omega)
    have hv : wrap64 (k + m) = k + m := IntWalk.wrap64_in _ (by omega)
    by_cases g2 : i < 0 ∨ k + m ≤ i ∨ e < 0 ∨ 4294967295 < e
    · have hmay : Lab.may ⟨[a0, a1, a2, a3, a4, a5, a6, a7], k, m, b, i, e⟩ = 2 := (if_neg g1).trans (if_pos g2)
      rw [hmay]
      clear hmay g1 hs hk hm
      rcases (show i < 0 ∨ (¬i < 0 ∧ k + m ≤ i) ∨ (¬i < 0 ∧ ¬k + m ≤ i ∧ e < 0) ∨ (¬i < 0 ∧ ¬k + m ≤ i ∧ ¬e < 0 ∧ 4294967295 < e) by omega) with h6 | ⟨h6, h7⟩ | ⟨h6, h7, h8⟩ | ⟨h6, h7, h8, h9⟩
      · clear g2
        go_enter Try.func27, Try.ntmps27
        go_wp2
        go_ret
        exact ⟨rfl, ((Below.refl _ w).alloc (Nat.le_refl _) _).alloc (by simp) _⟩
      · clear g2
        go_enter Try.func27, Try.ntmps27
        go_wp2
        go_ret
        exact ⟨rfl, ((Below.refl _ w).alloc (Nat.le_refl _) _).alloc (by simp) _⟩
      · clear g2
        go_enter Try.func27, Try.ntmps27
        go_wp2
        go_ret
        exact ⟨rfl, ((Below.refl _ w).alloc (Nat.le_refl _) _).alloc (by simp) _⟩
      · clear g2
        go_enter Try.func27, Try.ntmps27
        go_wp2
        go_ret
        exact ⟨rfl, ((Below.refl _ w).alloc (Nat.le_refl _) _).alloc (by simp) _⟩
    · have hmay : Lab.may ⟨[a0, a1, a2, a3, a4, a5, a6, a7], k, m, b, i, e⟩ = 0 := (if_neg g1).trans (if_neg g2)
      rw [hmay]
      have h6 : ¬i < 0 := by omega
      have h7 : ¬k + m ≤ i := by omega
      have h8 : ¬e < 0 := by omega
      have h9 : ¬4294967295 < e := by omega
      clear hmay g1 g2 hs hk hm
      go_enter Try.func27, Try.ntmps27
      go_wp2
      go_ret
      exact ⟨rfl, ((Below.refl _ w).alloc (Nat.le_refl _) _).alloc (by simp) _⟩

theorem magic_any (w : World) : Calls Try.prog 28 #[] w fun e w' => e = .returned (.agg #[.int .u8 67, .int .u8 82, .int .u8 78, .int .u8 1]) ∧ Below w.heap.size w w' := by
  go_enter Try.func28, Try.ntmps28
  go_wp2
  refine bodyPost_ret (v := .agg #[.int .u8 67, .int .u8 82, .int .u8 78, .int .u8 1]) (by simp only [results, Try.results28]; go_simp) rfl ⟨rfl, ?_⟩
  exact (Below.refl _ w).alloc (Nat.le_refl _) _
end Go.Proofs.Ytdiaihpilniikaa
