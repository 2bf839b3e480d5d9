/- WoundApart: for every two scripts and every order the Go function answers true: two scripts on two wounds, laid between one another in any order, answer as each does alone. No condition beyond the form's own reach. -/
import Derived.Test.YtdmcjomcbhdcbaaOp
import Derived.Test.YtdmcjomcbhdcbaaAp
import Derived.WalkKit
import Derived.ProofKit
import Derived.OpenShut
import Derived.ShutString
import Derived.ChangeOld
import Derived.Below
import Derived.SizedLaws
namespace Go.Proofs.Ytdmcjomcbhdcbaa.woundApart
open Go.ChangeShapes Go.WideShapes Go.ChangeAt Go.RowKit
set_option linter.unusedVariables false

theorem len4 {α : Type} {l : List α} (h : l.length = 4) : ∃ c0 c1 c2 c3, l = [c0, c1, c2, c3] := by
  match l, h with
  | [c0, c1, c2, c3], _ => exact ⟨c0, c1, c2, c3, rfl⟩

/-- Two scripts and their order, opened. -/
theorem open_two {H : Type} {enc : TypeId × Value → H} {w : World} {base : Nat} {spare : Nat → Bool} {held : Bool} {fuel : Nat} {cs : List Value} {y : DataW H × List MemPlace} (h : DataW.trod enc Try.prog w base spare held fuel 83 cs = some y) (hall : ∀ k ∈ y.1.weights Try.prog 83, k ≤ reachBytes) :
    ∃ n aA nA cA xs aC nC cC ys aO nO cO ords, cs = (twoCells n aA nA cA aC nC cC aO nO cO).toList ∧
      ScriptAt w w.heap.size aA nA xs ∧ nA * 168 ≤ 140737488351232 ∧ ScriptAt w w.heap.size aC nC ys ∧ nC * 168 ≤ 140737488351232 ∧
      Reads w w.heap.size 1 aO nO (List.map boolV ords) ∧ nO ≤ 140737488351232 := by
  obtain ⟨xs, n, _, hy, hlen, hxl, hf⟩ := DataW.trod_struct Try.underlying83 h
  have hc : Try.prog.cellsOf 83 = 4 := by kernel_rfl
  rw [hc] at hlen
  obtain ⟨c0, c1, c2, c3, rfl⟩ := len4 hlen
  have k3 : Try.prog.cellsOf 3 = 1 := by kernel_rfl
  have k4 : Try.prog.cellsOf 4 = 1 := by kernel_rfl
  have kS : Try.prog.cellsOf 58 = 1 := by kernel_rfl
  have k64 : Try.prog.cellsOf 64 = 1 := by kernel_rfl
  have b4 : Try.prog.bytesOf 4 = 1 := by kernel_rfl
  obtain ⟨y0, y1, y2, y3, rfl⟩ := len4 (hxl.trans (by decide))
  have g0 : DataW.trod enc Try.prog w base spare held n 3 (List.take (Try.prog.cellsOf 3) [c0, c1, c2, c3]) = some y0 := hf 0 _ rfl
  have g1 : DataW.trod enc Try.prog w base spare held n 58 (List.take (Try.prog.cellsOf 58) [c1, c2, c3]) = some y1 := hf 1 _ rfl
  have g2 : DataW.trod enc Try.prog w base spare held n 58 (List.take (Try.prog.cellsOf 58) [c2, c3]) = some y2 := hf 2 _ rfl
  have g3 : DataW.trod enc Try.prog w base spare held n 64 (List.take (Try.prog.cellsOf 64) [c3]) = some y3 := hf 3 _ rfl
  rw [k3] at g0
  rw [kS] at g1
  rw [kS] at g2
  rw [k64] at g3
  have hw : ∀ (j : Nat) (t : TypeId) (d : DataW H), ([3, 58, 58, 64] : List TypeId)[j]? = some t → ([y0.1, y1.1, y2.1, y3.1] : List (DataW H))[j]? = some d → ∀ k ∈ d.weights Try.prog t, k ≤ reachBytes := fun j t d ht hd k hk =>
    hall k (by rw [hy]; simp only [DataW.weights, Try.underlying83]; exact DataW.weights_mem_each ht hd k hk)
  obtain ⟨a0, e0, _⟩ := DataW.trod_int Try.underlying3 g0
  obtain ⟨aA, nA, cA, xs, e1, _, hlA, hxs⟩ := open_script g1 (hw 1 _ _ rfl rfl)
  obtain ⟨aC, nC, cC, ys, e2, _, hlC, hys⟩ := open_script g2 (hw 2 _ _ rfl rfl)
  obtain ⟨aO, nO, cO, lo, e3, hlo, hco, hbo, hro⟩ := open_row boolV Try.underlying64 k4 dec_bool g3 (hw 3 _ _ rfl rfl)
  simp only [List.take, List.cons.injEq, and_true] at e0
  rw [b4] at hbo
  unfold reachBytes at hbo
  refine ⟨a0, aA, nA, cA, xs, aC, nC, cC, ys, aO, nO, cO, lo, ?_, hxs, hlA, hys, hlC, hro, by omega⟩
  subst e0 e1 e2 e3
  rfl

theorem own : ownKnob Try.prog.godebug = none := by kernel_rfl
theorem laidOut : laidOutB Try.prog = true := by kernel_rfl

set_option maxRecDepth 100000 in
theorem lifted (os : Os) (started : os.Started) (H : Type) (enc : TypeId × Value → H) :
    ReturnsInHanded {} Try.checked os 9 .any (Rows.woundApartSpec.pre6 enc Try.prog Try.f9 Rows.woundApartRow.domain false) (Rows.woundApartSpec.post enc Try.prog Try.f9 false true false false) := by
  refine returnsInHanded_of_change_sized (C := Try.checked) own started (by kernel_rfl) Try.func9
    (ChangeSpec.witness6 (enc := enc) (C := Try.checked) false ⟨#[], #[.agg #[.int .i64 0, .slice none 0 0, .slice none 0 0, .slice none 0 0]], []⟩ 8 (by kernel_rfl) (by kernel_rfl) (by kernel_rfl) (by kernel_rfl)) ?_
  intro W base args ds gs before hval0 hW hcnd hsz0 _
  have hval : ∀ (j : Nat) t v, Try.f9.params[j]? = some t → args[j]? = some v → Value.okWide Try.prog W .any base t v := hval0
  have hsz : (DataW.weightsEach Try.prog (Try.f9.params.toList ++ Rows.woundApartSpec.plain.varTypes Try.prog) (ds ++ gs)).all (· ≤ reachBytes) = true := hsz0
  have hW' := hW
  obtain ⟨p, q, hA0, hV, rfl, hfz, hnd⟩ := hW
  have hA : DataW.TrodAll enc Try.prog W 0 (fun _ => true) true Try.f9.params.toList args.toList ds p := hA0
  rw [Try.params9] at hA hval hsz
  obtain ⟨v0, vs0, d0, ds0, p0, q0, hargs, rfl, rfl, h0, r0⟩ := trodAll_cons hA
  obtain ⟨rfl, rfl, rfl⟩ := trodAll_nil r0
  obtain rfl : args = #[v0] := by cases args; simp_all
  obtain ⟨rfl, rfl⟩ := trodVars_none hV
  obtain ⟨cs, rfl, hcs⟩ := okWide_struct Try.underlying83 (hval 0 83 v0 rfl rfl)
  have k1 := h0
  have lt1 : ∀ x ∈ p0, x.block < W.heap.size := by obtain ⟨m, hm⟩ := k1; exact DataW.trod_lt m _ _ _ hm
  obtain ⟨fuel, hf⟩ := h0
  obtain ⟨n, aA, nA, cA, xs, aC, nC, cC, ys, aO, nO, cO, ords, hv, hx, hlA, hy, hlC, ho, hlO⟩ := open_two hf fun k hk => by
    have := List.all_eq_true.1 hsz k (DataW.weights_mem_each (j := 0) rfl rfl k hk)
    simpa using this
  have hv2 : cs.toList = (twoCells n aA nA cA aC nC cC aO nO cO).toList := hv
  obtain rfl := Array.toList_inj.1 hv2
  clear hA0 hval0 hf hv hv2
  refine (woundApart_walk n aA nA cA xs aC nC cC ys aO nO cO ords W hx hlA hy hlC ho hlO).mono fun e W' ⟨he, bel⟩ => ?_
  subst he
  exact ⟨_, rfl, _, _, _, [], _, [], hW', trodAll_mk1 (shut_bool Try.underlying4 _), (trodAll_cons_mk (Below.trod laidOut (by kernel_rfl) (of_decide_eq_true (by kernel_rfl)) k1 bel lt1) trodAll_mk0), rfl, bel.frame _, fun h => by cases h⟩

theorem over : Rows.woundApartRow.holds Try.pinned (OpenSpec.ofChange Rows.woundApartSpec) :=
  OpenClaim.holds_of_wide 9 Try.f9 rfl rfl rfl rfl rfl rfl rfl ⟨rfl, rfl, rfl, rfl, rfl⟩ rfl rfl rfl rfl rfl (by kernel_rfl) Try.func9 (by kernel_rfl)
    (of_decide_eq_true (by kernel_rfl)) (by unfold Func.isWrapper; first | (rw [if_pos (by decide +kernel)]; kernel_rfl) | (rw [if_neg (by decide +kernel)]; exact ⟨rfl, rfl⟩))
    (fun os started H enc _ => lifted os started H enc)

/-- THE STATEMENT -/
theorem proved : Rows.WoundApartSaid := over
#print axioms proved
end Go.Proofs.Ytdmcjomcbhdcbaa.woundApart
