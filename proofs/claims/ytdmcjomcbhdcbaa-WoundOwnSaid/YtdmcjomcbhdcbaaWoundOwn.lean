/- WoundOwn: for every two lists of bytes and every number the Go function answers true: what is handed in and what is answered shares no memory with the wound. No condition beyond the form's own reach. -/
import Derived.Test.YtdmcjomcbhdcbaaOw
import Derived.Test.YtdmcjomcbhdcbaaOp
import Derived.Test.YtdmcjomcbhdcbaaRows
import Derived.WalkKit
import Derived.ProofKit
import Derived.OpenShut
import Derived.ShutString
import Derived.ChangeOld
import Derived.Below
import Derived.SizedLaws
namespace Go.Proofs.Ytdmcjomcbhdcbaa.woundOwn
open Go.ChangeShapes Go.WideShapes Go.ChangeAt Go.RowKit
set_option linter.unusedVariables false

theorem own : ownKnob Try.prog.godebug = none := by kernel_rfl
theorem laidOut : laidOutB Try.prog = true := by kernel_rfl

set_option maxRecDepth 100000 in
theorem lifted (os : Os) (started : os.Started) (H : Type) (enc : TypeId × Value → H) :
    ReturnsInHanded {} Try.checked os 3 .any (Rows.woundOwnSpec.pre6 enc Try.prog Try.f3 Rows.woundOwnRow.domain false) (Rows.woundOwnSpec.post enc Try.prog Try.f3 false true false false) := by
  refine returnsInHanded_of_change_sized (C := Try.checked) own started (by kernel_rfl) Try.func3
    (ChangeSpec.witness6 (enc := enc) (C := Try.checked) false ⟨#[], #[.slice none 0 0, .slice none 0 0, .int .i64 0], []⟩ 8 (by kernel_rfl) (by kernel_rfl) (by kernel_rfl) (by kernel_rfl)) ?_
  intro W base args ds gs before hval0 hW hcnd hsz0 _
  have hval : ∀ (j : Nat) t v, Try.f3.params[j]? = some t → args[j]? = some v → Value.okWide Try.prog W .any base t v := hval0
  have hsz : (DataW.weightsEach Try.prog (Try.f3.params.toList ++ Rows.woundOwnSpec.plain.varTypes Try.prog) (ds ++ gs)).all (· ≤ reachBytes) = true := hsz0
  have hW' := hW
  obtain ⟨p, q, hA0, hV, rfl, hfz, hnd⟩ := hW
  have hA : DataW.TrodAll enc Try.prog W 0 (fun _ => true) true Try.f3.params.toList args.toList ds p := hA0
  rw [Try.params3] at hA hval hsz
  obtain ⟨v0, vs0, d0, ds0, p0, q0, hargs, rfl, rfl, h0, r0⟩ := trodAll_cons hA
  obtain ⟨v1, vs1, d1, ds1, p1, q1, rfl, rfl, rfl, h1, r1⟩ := trodAll_cons r0
  obtain ⟨v2, vs2, d2, ds2, p2, q2, rfl, rfl, rfl, h2, r2⟩ := trodAll_cons r1
  obtain ⟨rfl, rfl, rfl⟩ := trodAll_nil r2
  obtain rfl : args = #[v0, v1, v2] := by cases args; simp_all
  obtain ⟨rfl, rfl⟩ := trodVars_none hV
  obtain ⟨a0, len0, cap0, rfl⟩ := okWide_slice Try.underlying22 (hval 0 22 v0 rfl rfl)
  obtain ⟨a1, len1, cap1, rfl⟩ := okWide_slice Try.underlying22 (hval 1 22 v1 rfl rfl)
  obtain ⟨at_, rfl, rfl, rfl, w2⟩ := open_int Try.underlying3 (hval 2 3 v2 rfl rfl) h2
  have k0 := h0
  have lt0 : ∀ x ∈ p0, x.block < W.heap.size := by obtain ⟨m, hm⟩ := k0; exact DataW.trod_lt m _ _ _ hm
  have k1 := h1
  have lt1 : ∀ x ∈ p1, x.block < W.heap.size := by obtain ⟨m, hm⟩ := k1; exact DataW.trod_lt m _ _ _ hm
  have k5 : Try.prog.cellsOf 5 = 1 := by kernel_rfl
  have b5 : Try.prog.bytesOf 5 = 1 := by kernel_rfl
  obtain ⟨bs0, hlen0, hcap0, hrd0⟩ : ∃ bs : List UInt8, len0 ≤ 140737488351232 ∧ len0 ≤ cap0 ∧ Reads W W.heap.size 1 a0 len0 (bs.map B8) := by
    obtain ⟨fuel, hf⟩ := h0
    obtain ⟨A, n, c, l, hv, _, hnc, hby, hrd⟩ := open_row B8 Try.underlying22 k5 dec_byte hf fun k hk => by
      have := List.all_eq_true.1 hsz k (DataW.weights_mem_each (j := 0) rfl rfl k hk)
      simpa using this
    injection hv with e1 e2 e3
    subst e1 e2 e3
    rw [b5] at hby
    exact ⟨l, by have : reachBytes = 140737488351232 := rfl; omega, hnc, hrd⟩
  obtain ⟨bs1, hlen1, hcap1, hrd1⟩ : ∃ bs : List UInt8, len1 ≤ 140737488351232 ∧ len1 ≤ cap1 ∧ Reads W W.heap.size 1 a1 len1 (bs.map B8) := by
    obtain ⟨fuel, hf⟩ := h1
    obtain ⟨A, n, c, l, hv, _, hnc, hby, hrd⟩ := open_row B8 Try.underlying22 k5 dec_byte hf fun k hk => by
      have := List.all_eq_true.1 hsz k (DataW.weights_mem_each (j := 1) rfl rfl k hk)
      simpa using this
    injection hv with e1 e2 e3
    subst e1 e2 e3
    rw [b5] at hby
    exact ⟨l, by have : reachBytes = 140737488351232 := rfl; omega, hnc, hrd⟩
  clear hA0 hval0
  refine (woundOwn_walk a0 len0 cap0 bs0 a1 len1 cap1 bs1 at_ W hrd0 hcap0 hrd1 hcap1).mono fun e W' ⟨he, bel⟩ => ?_
  subst he
  exact ⟨_, rfl, _, _, _, [], _, [], hW', trodAll_mk1 (shut_bool Try.underlying4 _), (trodAll_cons_mk (Below.trod laidOut (by kernel_rfl) (of_decide_eq_true (by kernel_rfl)) k0 bel lt0) (trodAll_cons_mk (Below.trod laidOut (by kernel_rfl) (of_decide_eq_true (by kernel_rfl)) k1 bel lt1) (trodAll_cons_mk (shut_int Try.underlying3 w2) trodAll_mk0))), rfl, bel.frame _, fun h => by cases h⟩

theorem over : Rows.woundOwnRow.holds Try.pinned (OpenSpec.ofChange Rows.woundOwnSpec) :=
  OpenClaim.holds_of_wide 3 Try.f3 rfl rfl rfl rfl rfl rfl rfl ⟨rfl, rfl, rfl, rfl, rfl⟩ rfl rfl rfl rfl rfl (by kernel_rfl) Try.func3 (by kernel_rfl)
    (of_decide_eq_true (by kernel_rfl)) (by unfold Func.isWrapper; first | (rw [if_pos (by decide +kernel)]; kernel_rfl) | (rw [if_neg (by decide +kernel)]; exact ⟨rfl, rfl⟩))
    (fun os started H enc _ => lifted os started H enc)

/-- THE STATEMENT -/
theorem proved : Rows.WoundOwnSaid := over
#print axioms proved
end Go.Proofs.Ytdmcjomcbhdcbaa.woundOwn
