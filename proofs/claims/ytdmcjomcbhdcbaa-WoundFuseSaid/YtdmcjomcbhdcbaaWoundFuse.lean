/- WoundFuse: for every job the Go function answers true: whose power goes ahead of a call leaves a beginning of the round, and of an Append as many bytes as was said. No condition beyond the form's own reach. -/
import Derived.Test.YtdmcjomcbhdcbaaOp
import Derived.Test.YtdmcjomcbhdcbaaFw
import Derived.WalkKit
import Derived.ProofKit
import Derived.OpenShut
import Derived.ShutString
import Derived.ChangeOld
import Derived.Below
import Derived.SizedLaws
namespace Go.Proofs.Ytdmcjomcbhdcbaa.woundFuse
open Go.ChangeShapes Go.WideShapes Go.ChangeAt Go.RowKit
set_option linter.unusedVariables false

theorem len6 {α : Type} {l : List α} (h : l.length = 6) : ∃ c0 c1 c2 c3 c4 c5, l = [c0, c1, c2, c3, c4, c5] := by
  match l, h with
  | [c0, c1, c2, c3, c4, c5], _ => exact ⟨c0, c1, c2, c3, c4, c5, rfl⟩
theorem len7 {α : Type} {l : List α} (h : l.length = 7) : ∃ c0 c1 c2 c3 c4 c5 c6, l = [c0, c1, c2, c3, c4, c5, c6] := by
  match l, h with
  | [c0, c1, c2, c3, c4, c5, c6], _ => exact ⟨c0, c1, c2, c3, c4, c5, c6, rfl⟩

/-- A job, opened. -/
theorem open_job {H : Type} {enc : TypeId × Value → H} {w : World} {base : Nat} {spare : Nat → Bool} {held : Bool} {fuel : Nat} {cs : List Value} {y : DataW H × List MemPlace} (h : DataW.trod enc Try.prog w base spare held fuel 76 cs = some y) (hall : ∀ k ∈ y.1.weights Try.prog 76, k ≤ reachBytes) :
    ∃ n aA nA cA xs aC nC cC ys call ins pr nd cr dirs pc nc cc cuts, cs = (jobCells n aA nA cA aC nC cC call ins pr nd cr pc nc cc).toList ∧
      ScriptAt w w.heap.size aA nA xs ∧ nA * 168 ≤ 140737488351232 ∧ ScriptAt w w.heap.size aC nC ys ∧ nC * 168 ≤ 140737488351232 ∧
      Reads w w.heap.size 1 pr nd (List.map boolV dirs) ∧ Reads w w.heap.size 1 pc nc (List.map intV cuts) ∧ nd ≤ 140737488351232 ∧ nc * 8 ≤ 140737488351232 := by
  obtain ⟨xs, n, _, hy, hlen, hxl, hf⟩ := DataW.trod_struct Try.underlying76 h
  have hc : Try.prog.cellsOf 76 = 7 := by kernel_rfl
  rw [hc] at hlen
  obtain ⟨c0, c1, c2, c3, c4, c5, c6, rfl⟩ := len7 hlen
  have k3 : Try.prog.cellsOf 3 = 1 := by kernel_rfl
  have k4 : Try.prog.cellsOf 4 = 1 := by kernel_rfl
  have kS : Try.prog.cellsOf 58 = 1 := by kernel_rfl
  have k67 : Try.prog.cellsOf 67 = 2 := by kernel_rfl
  have k64 : Try.prog.cellsOf 64 = 1 := by kernel_rfl
  have k65 : Try.prog.cellsOf 65 = 1 := by kernel_rfl
  have b4 : Try.prog.bytesOf 4 = 1 := by kernel_rfl
  have b3 : Try.prog.bytesOf 3 = 8 := by kernel_rfl
  obtain ⟨y0, y1, y2, y3, y4, y5, rfl⟩ := len6 (hxl.trans (by decide))
  have g0 : DataW.trod enc Try.prog w base spare held n 3 (List.take (Try.prog.cellsOf 3) [c0, c1, c2, c3, c4, c5, c6]) = some y0 := hf 0 _ rfl
  have g1 : DataW.trod enc Try.prog w base spare held n 58 (List.take (Try.prog.cellsOf 58) [c1, c2, c3, c4, c5, c6]) = some y1 := hf 1 _ rfl
  have g2 : DataW.trod enc Try.prog w base spare held n 58 (List.take (Try.prog.cellsOf 58) [c2, c3, c4, c5, c6]) = some y2 := hf 2 _ rfl
  have g3 : DataW.trod enc Try.prog w base spare held n 3 (List.take (Try.prog.cellsOf 3) [c3, c4, c5, c6]) = some y3 := hf 3 _ rfl
  have g4 : DataW.trod enc Try.prog w base spare held n 3 (List.take (Try.prog.cellsOf 3) [c4, c5, c6]) = some y4 := hf 4 _ rfl
  have g5 : DataW.trod enc Try.prog w base spare held n 67 (List.take (Try.prog.cellsOf 67) [c5, c6]) = some y5 := hf 5 _ rfl
  rw [k3] at g0
  rw [kS] at g1
  rw [kS] at g2
  rw [k3] at g3
  rw [k3] at g4
  rw [k67] at g5
  have hw : ∀ (j : Nat) (t : TypeId) (d : DataW H), ([3, 58, 58, 3, 3, 67] : List TypeId)[j]? = some t → ([y0.1, y1.1, y2.1, y3.1, y4.1, y5.1] : List (DataW H))[j]? = some d → ∀ k ∈ d.weights Try.prog t, k ≤ reachBytes := fun j t d ht hd k hk =>
    hall k (by rw [hy]; simp only [DataW.weights, Try.underlying76]; exact DataW.weights_mem_each ht hd k hk)
  obtain ⟨a0, e0, _⟩ := DataW.trod_int Try.underlying3 g0
  obtain ⟨aA, nA, cA, xs, e1, _, hlA, hxs⟩ := open_script g1 (hw 1 _ _ rfl rfl)
  obtain ⟨aC, nC, cC, ys, e2, _, hlC, hys⟩ := open_script g2 (hw 2 _ _ rfl rfl)
  obtain ⟨a3, e3, _⟩ := DataW.trod_int Try.underlying3 g3
  obtain ⟨a4, e4, _⟩ := DataW.trod_int Try.underlying3 g4
  obtain ⟨zs, n9, _, hy9, hlen9, hzl, hf9⟩ := DataW.trod_struct Try.underlying67 g5
  obtain ⟨z0, z1, rfl⟩ := len2 (hzl.trans (by decide))
  have f0 : DataW.trod enc Try.prog w base spare held n9 64 (List.take (Try.prog.cellsOf 64) [c5, c6]) = some z0 := hf9 0 _ rfl
  have f1 : DataW.trod enc Try.prog w base spare held n9 65 (List.take (Try.prog.cellsOf 65) [c6]) = some z1 := hf9 1 _ rfl
  rw [k64] at f0
  rw [k65] at f1
  have hw9 := hw 5 _ _ rfl rfl
  have hwf : ∀ (j : Nat) (t : TypeId) (d : DataW H), ([64, 65] : List TypeId)[j]? = some t → ([z0.1, z1.1] : List (DataW H))[j]? = some d → ∀ k ∈ d.weights Try.prog t, k ≤ reachBytes := fun j t d ht hd k hk =>
    hw9 k (by rw [hy9]; simp only [DataW.weights, Try.underlying67]; exact DataW.weights_mem_each ht hd k hk)
  obtain ⟨pr, nr, cr, lr, e9, hlr, hcr, hbr, hrr⟩ := open_row boolV Try.underlying64 k4 dec_bool f0 (hwf 0 _ _ rfl rfl)
  obtain ⟨pc, nc, cc, lc, e10, hlc, hcc, hbc, hrc⟩ := open_row intV Try.underlying65 k3 dec_int f1 (hwf 1 _ _ rfl rfl)
  simp only [List.take, List.cons.injEq, and_true] at e0 e3 e4
  rw [b4] at hbr
  rw [b3] at hbc
  unfold reachBytes at hbr hbc
  refine ⟨a0, aA, nA, cA, xs, aC, nC, cC, ys, a3, a4, pr, nr, cr, lr, pc, nc, cc, lc, ?_, hxs, hlA, hys, hlC, hrr, hrc, by omega, by omega⟩
  subst e0 e1 e2 e3 e4
  simp only [jobCells, ← e9, ← e10]

theorem own : ownKnob Try.prog.godebug = none := by kernel_rfl
theorem laidOut : laidOutB Try.prog = true := by kernel_rfl

set_option maxRecDepth 100000 in
theorem lifted (os : Os) (started : os.Started) (H : Type) (enc : TypeId × Value → H) :
    ReturnsInHanded {} Try.checked os 7 .any (Rows.woundFuseSpec.pre6 enc Try.prog Try.f7 Rows.woundFuseRow.domain false) (Rows.woundFuseSpec.post enc Try.prog Try.f7 false true false false) := by
  refine returnsInHanded_of_change_sized (C := Try.checked) own started (by kernel_rfl) Try.func7
    (ChangeSpec.witness6 (enc := enc) (C := Try.checked) false ⟨#[], #[.agg #[.int .i64 0, .slice none 0 0, .slice none 0 0, .int .i64 0, .int .i64 0, .slice none 0 0, .slice none 0 0]], []⟩ 8 (by kernel_rfl) (by kernel_rfl) (by kernel_rfl) (by kernel_rfl)) ?_
  intro W base args ds gs before hval0 hW hcnd hsz0 _
  have hval : ∀ (j : Nat) t v, Try.f7.params[j]? = some t → args[j]? = some v → Value.okWide Try.prog W .any base t v := hval0
  have hsz : (DataW.weightsEach Try.prog (Try.f7.params.toList ++ Rows.woundFuseSpec.plain.varTypes Try.prog) (ds ++ gs)).all (· ≤ reachBytes) = true := hsz0
  have hW' := hW
  obtain ⟨p, q, hA0, hV, rfl, hfz, hnd⟩ := hW
  have hA : DataW.TrodAll enc Try.prog W 0 (fun _ => true) true Try.f7.params.toList args.toList ds p := hA0
  rw [Try.params7] at hA hval hsz
  obtain ⟨v0, vs0, d0, ds0, p0, q0, hargs, rfl, rfl, h0, r0⟩ := trodAll_cons hA
  obtain ⟨rfl, rfl, rfl⟩ := trodAll_nil r0
  obtain rfl : args = #[v0] := by cases args; simp_all
  obtain ⟨rfl, rfl⟩ := trodVars_none hV
  obtain ⟨cs, rfl, hcs⟩ := okWide_struct Try.underlying76 (hval 0 76 v0 rfl rfl)
  have k1 := h0
  have lt1 : ∀ x ∈ p0, x.block < W.heap.size := by obtain ⟨m, hm⟩ := k1; exact DataW.trod_lt m _ _ _ hm
  obtain ⟨fuel, hf⟩ := h0
  obtain ⟨n, aA, nA, cA, xs, aC, nC, cC, ys, call, ins, pr, nd, cr, dirs, pc, nc, cc, cuts, hv, hx, hlA, hy, hlC, hr, hc, hnd, hnc⟩ := open_job hf fun k hk => by
    have := List.all_eq_true.1 hsz k (DataW.weights_mem_each (j := 0) rfl rfl k hk)
    simpa using this
  have hv2 : cs.toList = (jobCells n aA nA cA aC nC cC call ins pr nd cr pc nc cc).toList := hv
  obtain rfl := Array.toList_inj.1 hv2
  clear hA0 hval0 hf hv hv2
  refine (woundFuse_walk n aA nA cA xs aC nC cC ys call ins pr nd cr dirs pc nc cc cuts W hx hlA hy hlC hr hc hnd hnc).mono fun e W' ⟨he, bel⟩ => ?_
  subst he
  exact ⟨_, rfl, _, _, _, [], _, [], hW', trodAll_mk1 (shut_bool Try.underlying4 _), (trodAll_cons_mk (Below.trod laidOut (by kernel_rfl) (of_decide_eq_true (by kernel_rfl)) k1 bel lt1) trodAll_mk0), rfl, bel.frame _, fun h => by cases h⟩

theorem over : Rows.woundFuseRow.holds Try.pinned (OpenSpec.ofChange Rows.woundFuseSpec) :=
  OpenClaim.holds_of_wide 7 Try.f7 rfl rfl rfl rfl rfl rfl rfl ⟨rfl, rfl, rfl, rfl, rfl⟩ rfl rfl rfl rfl rfl (by kernel_rfl) Try.func7 (by kernel_rfl)
    (of_decide_eq_true (by kernel_rfl)) (by unfold Func.isWrapper; first | (rw [if_pos (by decide +kernel)]; kernel_rfl) | (rw [if_neg (by decide +kernel)]; exact ⟨rfl, rfl⟩))
    (fun os started H enc _ => lifted os started H enc)

/-- THE STATEMENT -/
theorem proved : Rows.WoundFuseSaid := over
#print axioms proved
end Go.Proofs.Ytdmcjomcbhdcbaa.woundFuse
