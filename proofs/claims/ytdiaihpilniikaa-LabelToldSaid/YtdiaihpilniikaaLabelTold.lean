/- LabelTold: for every label, every pattern and all places the Go function answers true: what is turned in a label's bytes is told, unless no sum sees it. No condition beyond the form's own reach. -/
import Derived.Test.YtdiaihpilniikaaKx
import Derived.Test.YtdiaihpilniikaaKza
import Derived.Test.YtdiaihpilniikaaRows
import Derived.WalkKit
import Derived.ProofKit
import Derived.OpenShut
import Derived.ShutString
import Derived.ChangeOld
import Derived.Below
import Derived.SizedLaws
namespace Go.Proofs.Ytdiaihpilniikaa.labelTold
open Go.ChangeShapes Go.WideShapes Go.ChangeAt Go.RowKit
set_option linter.unusedVariables false

theorem own : ownKnob Try.prog.godebug = none := by kernel_rfl
theorem laidOut : laidOutB Try.prog = true := by kernel_rfl
/-- An integer as a Go value may hold it. -/
def I64b (z : {z : Int // -9223372036854775808 ≤ z ∧ z ≤ 9223372036854775807}) : Value := .int .i64 z.1
instance : Inhabited {z : Int // -9223372036854775808 ≤ z ∧ z ≤ 9223372036854775807} := ⟨⟨0, by decide⟩⟩
theorem dec_i64 {H : Type} {enc : TypeId × Value → H} {w : World} {base : Nat} {spare : Nat → Bool} {held : Bool} (n : Nat) (V : Value) (d : DataW H × List MemPlace) (h : DataW.trod enc Try.prog w base spare held n 3 [V] = some d) : ∃ b, V = I64b b := by
  obtain ⟨z, hz, h1, h2⟩ := trod_i64 h
  exact ⟨⟨z, h1, h2⟩, hz⟩

set_option maxRecDepth 100000 in
theorem lifted (os : Os) (started : os.Started) (H : Type) (enc : TypeId × Value → H) :
    ReturnsInHanded {} Try.checked os 9 .any (Rows.labelToldSpec.pre6 enc Try.prog Try.f9 Rows.labelToldRow.domain false) (Rows.labelToldSpec.post enc Try.prog Try.f9 false true false false) := by
  refine returnsInHanded_of_change_sized (C := Try.checked) own started (by kernel_rfl) Try.func9
    (ChangeSpec.witness6 (enc := enc) (C := Try.checked) false ⟨#[], #[.agg #[.int .u8 0, .int .u8 0, .int .u8 0, .int .u8 0, .int .u8 0, .int .u8 0, .int .u8 0, .int .u8 0, .int .i64 0, .int .i64 0, .int .i64 0, .int .i64 0, .int .i64 0], .slice none 0 0, .slice none 0 0], []⟩ 8 (by kernel_rfl) (by kernel_rfl) (by kernel_rfl) (by kernel_rfl)) ?_
  intro W base args ds gs before hval0 hW hcnd hsz0 _
  have hval : ∀ (j : Nat) t v, Try.f9.params[j]? = some t → args[j]? = some v → Value.okWide Try.prog W .any base t v := hval0
  have hsz : (DataW.weightsEach Try.prog (Try.f9.params.toList ++ Rows.labelToldSpec.plain.varTypes Try.prog) (ds ++ gs)).all (· ≤ reachBytes) = true := hsz0
  have hW' := hW
  obtain ⟨p, q, hA0, hV, rfl, hfz, hnd⟩ := hW
  have hA : DataW.TrodAll enc Try.prog W 0 (fun _ => true) true Try.f9.params.toList args.toList ds p := hA0
  rw [Try.params9] at hA hval hsz
  obtain ⟨v0, vs0, d0, ds0, p0, q0, hargs, rfl, rfl, h0, r0⟩ := trodAll_cons hA
  obtain ⟨v1, vs1, d1, ds1, p1, q1, rfl, rfl, rfl, h1, r1⟩ := trodAll_cons r0
  obtain ⟨v2, vs2, d2, ds2, p2, q2, rfl, rfl, rfl, h2, r2⟩ := trodAll_cons r1
  obtain ⟨rfl, rfl, rfl⟩ := trodAll_nil r2
  obtain rfl : args = #[v0, v1, v2] := by cases args; simp_all
  obtain ⟨rfl, rfl⟩ := trodVars_none hV
  have cb : Try.prog.cellsOf 5 = 1 := by kernel_rfl
  have bb : Try.prog.bytesOf 5 = 1 := by kernel_rfl
  have ci : Try.prog.cellsOf 3 = 1 := by kernel_rfl
  have bi : Try.prog.bytesOf 3 = 8 := by kernel_rfl
  obtain ⟨cs0, rfl, hcs0⟩ := okWide_struct Try.underlying26 (hval 0 26 v0 rfl rfl)
  have k0 := h0
  have lt0 : ∀ x ∈ p0, x.block < W.heap.size := by obtain ⟨m, hm⟩ := k0; exact DataW.trod_lt m _ _ _ hm
  obtain ⟨fuel0, hf0⟩ := h0
  obtain ⟨l0, hv0, hl0⟩ := open_lab hf0
  have hw0 : cs0.toList = (labCells l0).toList := hv0
  obtain rfl := Array.toList_inj.1 hw0
  obtain ⟨a1, len1, cap1, rfl⟩ := okWide_slice Try.underlying33 (hval 1 33 v1 rfl rfl)
  have k1 := h1
  have lt1 : ∀ x ∈ p1, x.block < W.heap.size := by obtain ⟨m, hm⟩ := k1; exact DataW.trod_lt m _ _ _ hm
  obtain ⟨bs1, hlen1, hcap1, hrd1⟩ : ∃ bs : List UInt8, len1 ≤ 140737488351232 ∧ len1 ≤ cap1 ∧ Reads W W.heap.size 1 a1 len1 (bs.map B8) := by
    obtain ⟨fuel, hf⟩ := h1
    obtain ⟨A, n, c, l, hv, _, hnc, hby, hrd⟩ := open_row B8 Try.underlying33 cb dec_byte hf fun k hk => by
      have := List.all_eq_true.1 hsz k (DataW.weights_mem_each (j := 1) rfl rfl k hk)
      simpa using this
    injection hv with e1 e2 e3
    subst e1 e2 e3
    rw [bb] at hby
    exact ⟨l, by have : reachBytes = 140737488351232 := rfl; omega, hnc, hrd⟩
  obtain ⟨a2, len2, cap2, rfl⟩ := okWide_slice Try.underlying43 (hval 2 43 v2 rfl rfl)
  have k2 := h2
  have lt2 : ∀ x ∈ p2, x.block < W.heap.size := by obtain ⟨m, hm⟩ := k2; exact DataW.trod_lt m _ _ _ hm
  obtain ⟨zs2, hlen2, hcap2, hzb2, hrd2⟩ : ∃ zs : List Int, len2 ≤ 17592186043904 ∧ len2 ≤ cap2 ∧ (∀ z ∈ zs, -9223372036854775808 ≤ z ∧ z ≤ 9223372036854775807) ∧ Reads W W.heap.size 1 a2 len2 (zs.map I64) := by
    obtain ⟨fuel, hf⟩ := h2
    obtain ⟨A, n, c, l, hv, _, hnc, hby, hrd⟩ := open_row I64b Try.underlying43 ci dec_i64 hf fun k hk => by
      have := List.all_eq_true.1 hsz k (DataW.weights_mem_each (j := 2) rfl rfl k hk)
      simpa using this
    injection hv with e1 e2 e3
    subst e1 e2 e3
    rw [bi] at hby
    refine ⟨l.map Subtype.val, by have : reachBytes = 140737488351232 := rfl; omega, hnc, fun z hz => ?_, by rw [List.map_map]; exact hrd⟩
    obtain ⟨x, _, rfl⟩ := List.mem_map.1 hz
    exact x.2
  clear hA0 hval0
  refine (labelTold_walk l0 hl0 a1 a2 len1 cap1 len2 cap2 bs1 zs2 W hrd1 hrd2 hzb2 (by omega)).mono fun e W' ⟨he, bel⟩ => ?_
  subst he
  exact ⟨_, rfl, _, _, _, [], _, [], hW', trodAll_mk1 (shut_bool Try.underlying4 _), (trodAll_cons_mk (Below.trod laidOut (by kernel_rfl) (of_decide_eq_true (by kernel_rfl)) k0 bel lt0) (trodAll_cons_mk (Below.trod laidOut (by kernel_rfl) (of_decide_eq_true (by kernel_rfl)) k1 bel lt1) (trodAll_cons_mk (Below.trod laidOut (by kernel_rfl) (of_decide_eq_true (by kernel_rfl)) k2 bel lt2) trodAll_mk0))), rfl, bel.frame _, fun h => by cases h⟩

theorem over : Rows.labelToldRow.holds Try.pinned (OpenSpec.ofChange Rows.labelToldSpec) :=
  OpenClaim.holds_of_wide 9 Try.f9 rfl rfl rfl rfl rfl rfl rfl ⟨rfl, rfl, rfl, rfl, rfl⟩ rfl rfl rfl rfl rfl (by kernel_rfl) Try.func9 (by kernel_rfl)
    (of_decide_eq_true (by kernel_rfl)) (by unfold Func.isWrapper; first | (rw [if_pos (by decide +kernel)]; kernel_rfl) | (rw [if_neg (by decide +kernel)]; exact ⟨rfl, rfl⟩))
    (fun os started H enc _ => lifted os started H enc)

/-- THE STATEMENT -/
theorem proved : Rows.LabelToldSaid := over
#print axioms proved
end Go.Proofs.Ytdiaihpilniikaa.labelTold
