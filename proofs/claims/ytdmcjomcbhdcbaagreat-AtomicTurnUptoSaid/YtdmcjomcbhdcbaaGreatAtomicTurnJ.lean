/- AtomicTurn, where what it reads is of bulk at most 1048576: the Go function answers true for every place, name, bytes, fuse and fate. (The bound lets every file and every list be counted in the numbers that the proof's drive bears.) -/
import Derived.Test.YtdmcjomcbhdcbaaGreatM25
import Derived.WalkKit
import Derived.ProofKit
import Derived.OpenShut
import Derived.ShutString
import Derived.ChangeOld
import Derived.Below
import Derived.JoinedCond
namespace Go.Proofs.YtdmcjomcbhdcbaaGreat.atomicTurn
open Go.ChangeShapes Go.WideShapes Go.ChangeAt Go.RowKit
set_option linter.unusedVariables false

theorem own : ownKnob Tryz.prog.godebug = none := by kernel_rfl
theorem laidOut : laidOutB Tryz.prog = true := by kernel_rfl

set_option maxRecDepth 100000 in
theorem contract (H : Type) (enc : TypeId × Value → H) (W : World) (base : Nat) (args : Array Value) (ds gs : List (DataW H)) (before : List MemPlace)
    (hval : ∀ (j : Nat) t v, Tryz.f3.params[j]? = some t → args[j]? = some v → Value.okWide Tryz.prog W .any base t v)
    (hW : DataW.Whole enc Tryz.prog Tryz.f3.params.toList Rows.atomicTurnSpec.vars false W args.toList ds gs before) (hk : Rows.uptoSmall H (ds ++ gs) = true) :
    Calls Tryz.prog 3 args W fun e W' => ∃ v, e = .returned v ∧ Rows.atomicTurnSpec.post enc Tryz.prog Tryz.f3 false true false false W args v W' := by
  have hW' := hW
  obtain ⟨p, q, hA0, hV, rfl, hfz, hnd⟩ := hW
  have hA : DataW.TrodAll enc Tryz.prog W 0 (fun _ => true) true Tryz.f3.params.toList args.toList ds p := hA0
  rw [Tryz.params3] at hA hval
  obtain ⟨v0, vs0, d0, ds0, p0, q0, hargs, rfl, rfl, h0, r0⟩ := trodAll_cons hA
  obtain ⟨v1, vs1, d1, ds1, p1, q1, rfl, rfl, rfl, h1, r1⟩ := trodAll_cons r0
  obtain ⟨v2, vs2, d2, ds2, p2, q2, rfl, rfl, rfl, h2, r2⟩ := trodAll_cons r1
  obtain ⟨v3, vs3, d3, ds3, p3, q3, rfl, rfl, rfl, h3, r3⟩ := trodAll_cons r2
  obtain ⟨v4, vs4, d4, ds4, p4, q4, rfl, rfl, rfl, h4, r4⟩ := trodAll_cons r3
  obtain ⟨v5, vs5, d5, ds5, p5, q5, rfl, rfl, rfl, h5, r5⟩ := trodAll_cons r4
  obtain ⟨rfl, rfl, rfl⟩ := trodAll_nil r5
  obtain rfl : args = #[v0, v1, v2, v3, v4, v5] := by cases args; simp_all
  obtain ⟨rfl, rfl⟩ := trodVars_none hV
  have hbk := bulks.bound hk
  simp only [List.append_nil, bulks.all_cons, bulks.all_nil] at hbk
  obtain ⟨c0, rfl, hc0⟩ := okWide_struct Tryz.underlying25 (hval 0 25 v0 rfl rfl)
  obtain ⟨c5, rfl, hc5⟩ := okWide_struct Tryz.underlying30 (hval 5 30 v5 rfl rfl)
  obtain ⟨s1, rfl⟩ := okWide_string Tryz.underlying9 (hval 1 9 v1 rfl rfl)
  obtain ⟨a2, n2, cap2, rfl⟩ := okWide_slice Tryz.underlying26 (hval 2 26 v2 rfl rfl)
  have k0 := h0
  have k1 := h1
  have k2 := h2
  have k5 := h5
  have lt0 : ∀ x ∈ p0, x.block < W.heap.size := by obtain ⟨m, hm⟩ := k0; exact DataW.trod_lt m _ _ _ hm
  have lt1 : ∀ x ∈ p1, x.block < W.heap.size := by obtain ⟨m, hm⟩ := k1; exact DataW.trod_lt m _ _ _ hm
  have lt2 : ∀ x ∈ p2, x.block < W.heap.size := by obtain ⟨m, hm⟩ := k2; exact DataW.trod_lt m _ _ _ hm
  have lt5 : ∀ x ∈ p5, x.block < W.heap.size := by obtain ⟨m, hm⟩ := k5; exact DataW.trod_lt m _ _ _ hm
  obtain ⟨a3, rfl, rfl, rfl, w3⟩ := open_int Tryz.underlying3 (hval 3 3 v3 rfl rfl) h3
  obtain ⟨a4, rfl, rfl, rfl, w4⟩ := open_int Tryz.underlying3 (hval 4 3 v4 rfl rfl) h4
  obtain ⟨f0, g0⟩ := h0
  obtain ⟨f1, g1⟩ := h1
  obtain ⟨f2, g2⟩ := h2
  obtain ⟨f5, g5⟩ := h5
  obtain ⟨x, L, e0, hx, hxp, hxf, hxd⟩ := openb_place g0 (by show Rows.uptoBulk d0 ≤ _; omega)
  have e0' : c0.toList = placeCells x L := e0
  obtain rfl : c0 = (placeCells x L).toArray := by rw [← e0']
  obtain ⟨nm, e1, hnm⟩ := openb_text g1
  have hnm' : nm.length + 1 ≤ Rows.uptoBulk d1 := hnm
  obtain ⟨A, n, c, bs, e2, hbl, hcc, hbb, hsp, hrb⟩ := open_rowb B8 Tryz.underlying26 (by kernel_rfl) decb_byte g2
  have hbb' : n + 1 ≤ Rows.uptoBulk d2 := hbb
  injection e2 with e2a e2b e2c
  subst e2a e2b e2c
  obtain ⟨pr, nd, cr, dirs, pc, nc, cc, cuts, e5, hft, hfb⟩ := openb_fate g5 (by show Rows.uptoBulk d5 ≤ _; omega)
  have e5' : c5.toList = [.slice pr nd cr, .slice pc nc cc] := e5
  obtain rfl : c5 = #[.slice pr nd cr, .slice pc nc cc] := by rw [← Array.toArray_toList (xs := c5), e5']
  have e1' : Value.string s1 = strV nm := e1
  rw [e1'] at hval hW' k1 ⊢
  clear hA0 g0 g1 g2 g5 e0 e1 e5 e1' hval r0 r1 r2 r3 r4 r5 hA hk
  have hno : x.ok = false ∨ x.ok = true := by cases x.ok <;> simp
  have post : ∀ W', Below W.heap.size W W' → ∃ v, Ending.returned (.bool true) = .returned v ∧ Rows.atomicTurnSpec.post enc Tryz.prog Tryz.f3 false true false false W #[.agg (placeCells x L).toArray, strV nm, .slice a2 n2 cap2, .int .i64 a3, .int .i64 a4, .agg #[.slice pr nd cr, .slice pc nc cc]] v W' := fun W' bel =>
    ⟨_, rfl, _, _, _, [], _, [], hW', trodAll_mk1 (shut_bool Tryz.underlying4 _),
      (trodAll_cons_mk (Below.trod laidOut (by kernel_rfl) (of_decide_eq_true (by kernel_rfl)) k0 bel lt0)
      (trodAll_cons_mk (Below.trod laidOut (by kernel_rfl) (of_decide_eq_true (by kernel_rfl)) k1 bel lt1)
      (trodAll_cons_mk (Below.trod laidOut (by kernel_rfl) (of_decide_eq_true (by kernel_rfl)) k2 bel lt2)
      (trodAll_cons_mk (shut_int Tryz.underlying3 w3)
      (trodAll_cons_mk (shut_int Tryz.underlying3 w4)
      (trodAll_cons_mk (Below.trod laidOut (by kernel_rfl) (of_decide_eq_true (by kernel_rfl)) k5 bel lt5) trodAll_mk0)))))), rfl, bel.frame _, fun h => by cases h⟩
  rcases hno with hno | hno
  · refine (turn_no W x L hx nm a2 n2 cap2 a3 a4 pr nd cr pc nc cc hno).mono fun e W' ⟨he, bel⟩ => ?_
    subst he
    exact post W' bel
  · refine (turn_yes W x L hx nm (by simp only [maxLen]; omega) a2 n2 cap2 bs hbl.symm hrb (by omega) a3 a4 pr nd cr dirs pc nc cc cuts hft hno (by omega) (by omega) (fun f hf => by have := hxd f hf; omega)).mono fun e W' ⟨he, bel⟩ => ?_
    subst he
    exact post W' bel

set_option maxRecDepth 100000 in
theorem lifted (os : Os) (started : os.Started) (H : Type) (enc : TypeId × Value → H) (F : Stop.Interp) :
    ReturnsInHanded {} Tryz.checked os 3 .any ((Rows.OpenSpec.upto Rows.atomicTurnSpec).pre6 enc Tryz.prog Tryz.f3 Rows.atomicTurnUptoRow.domain false) (((Rows.OpenSpec.upto Rows.atomicTurnSpec).at F).post enc Tryz.prog Tryz.f3 false true false false) := by
  refine returnsInHanded_of_cond (C := Tryz.checked) (s := Rows.OpenSpec.upto Rows.atomicTurnSpec) (k := Rows.uptoSmall) rfl own started (by kernel_rfl) Tryz.func3
    (OpenSpec.witness (enc := enc) (C := Tryz.checked) (s := Rows.OpenSpec.upto Rows.atomicTurnSpec) (k := Rows.uptoSmall) rfl false ⟨#[], #[.agg #[.bool false, .int .i64 0, .slice none 0 0, .slice none 0 0, .bool false, .bool false, .int .i64 0, .int .i64 0, .int .i64 0], .string ⟨#[]⟩, .slice none 0 0, .int .i64 0, .int .i64 0, .agg #[.slice none 0 0, .slice none 0 0]], []⟩ 8 (by kernel_rfl) (by kernel_rfl) (by kernel_rfl)
      (x := ([.agg [.lit (.bool false), .lit (.int .i64 0), .nil, .nil, .lit (.bool false), .lit (.bool false), .lit (.int .i64 0), .lit (.int .i64 0), .lit (.int .i64 0)], .lit (.string []), .nil, .lit (.int .i64 0), .lit (.int .i64 0), .agg [.nil, .nil]], [], [])) (by kernel_rfl) rfl (by kernel_rfl)) ?_
  intro W base args ds gs before hval hW _ hk _
  exact contract H enc W base args ds gs before hval hW hk

theorem over : Rows.atomicTurnUptoRow.holds Tryz.pinned (Rows.OpenSpec.upto Rows.atomicTurnSpec) :=
  OpenClaim.holds_of_cond 3 Tryz.f3 rfl rfl rfl rfl rfl rfl rfl ⟨rfl, rfl, rfl, rfl, rfl⟩ rfl rfl rfl rfl rfl (by kernel_rfl) Tryz.func3 (by kernel_rfl)
    (of_decide_eq_true (by kernel_rfl)) (by unfold Func.isWrapper; first | (rw [if_pos (by decide +kernel)]; kernel_rfl) | (rw [if_neg (by decide +kernel)]; exact ⟨rfl, rfl⟩))
    (fun os started H enc _ F => lifted os started H enc F)

/-- THE STATEMENT -/
theorem proved : Rows.AtomicTurnUptoSaid := over
#print axioms proved
end Go.Proofs.YtdmcjomcbhdcbaaGreat.atomicTurn
