/- AtomicAlone, where what it reads is of bulk at most 1048576: the Go function answers true for every place, list of steps, name and bytes. (The bound lets every file and every list be counted in the numbers that the proof's drive bears.) -/
import Derived.Test.YtdmcjomcbhdcbaaGreatM40
import Derived.Test.YtdmcjomcbhdcbaaGreatM42
import Derived.WalkKit
import Derived.ProofKit
import Derived.OpenShut
import Derived.ShutString
import Derived.ChangeOld
import Derived.Below
import Derived.JoinedCond
namespace Go.Proofs.YtdmcjomcbhdcbaaGreat.atomicAlone
open Go.ChangeShapes Go.WideShapes Go.ChangeAt Go.RowKit
set_option linter.unusedVariables false

theorem own : ownKnob Tryz.prog.godebug = none := by kernel_rfl
theorem laidOut : laidOutB Tryz.prog = true := by kernel_rfl

set_option maxRecDepth 100000 in
theorem contract (H : Type) (enc : TypeId × Value → H) (W : World) (base : Nat) (args : Array Value) (ds gs : List (DataW H)) (before : List MemPlace)
    (hval : ∀ (j : Nat) t v, Tryz.f5.params[j]? = some t → args[j]? = some v → Value.okWide Tryz.prog W .any base t v)
    (hW : DataW.Whole enc Tryz.prog Tryz.f5.params.toList Rows.atomicAloneSpec.vars false W args.toList ds gs before) (hk : Rows.uptoSmall H (ds ++ gs) = true) :
    Calls Tryz.prog 5 args W fun e W' => ∃ v, e = .returned v ∧ Rows.atomicAloneSpec.post enc Tryz.prog Tryz.f5 false true false false W args v W' := by
  have hW' := hW
  obtain ⟨p, q, hA0, hV, rfl, hfz, hnd⟩ := hW
  have hA : DataW.TrodAll enc Tryz.prog W 0 (fun _ => true) true Tryz.f5.params.toList args.toList ds p := hA0
  rw [Tryz.params5] at hA hval
  obtain ⟨v0, vs0, d0, ds0, p0, q0, hargs, rfl, rfl, h0, r0⟩ := trodAll_cons hA
  obtain ⟨v1, vs1, d1, ds1, p1, q1, rfl, rfl, rfl, h1, r1⟩ := trodAll_cons r0
  obtain ⟨v2, vs2, d2, ds2, p2, q2, rfl, rfl, rfl, h2, r2⟩ := trodAll_cons r1
  obtain ⟨v3, vs3, d3, ds3, p3, q3, rfl, rfl, rfl, h3, r3⟩ := trodAll_cons r2
  obtain ⟨rfl, rfl, rfl⟩ := trodAll_nil r3
  obtain rfl : args = #[v0, v1, v2, v3] := by cases args; simp_all
  obtain ⟨rfl, rfl⟩ := trodVars_none hV
  have hbk := bulks.bound hk
  simp only [List.append_nil, bulks.all_cons, bulks.all_nil] at hbk
  obtain ⟨c0, rfl, hc0⟩ := okWide_struct Tryz.underlying25 (hval 0 25 v0 rfl rfl)
  obtain ⟨a1, n1, cap1, rfl⟩ := okWide_slice Tryz.underlying52 (hval 1 52 v1 rfl rfl)
  obtain ⟨s2, rfl⟩ := okWide_string Tryz.underlying9 (hval 2 9 v2 rfl rfl)
  obtain ⟨a3, n3, cap3, rfl⟩ := okWide_slice Tryz.underlying26 (hval 3 26 v3 rfl rfl)
  have k0 := h0
  have k1 := h1
  have k2 := h2
  have k3 := h3
  have lt0 : ∀ x ∈ p0, x.block < W.heap.size := by obtain ⟨m, hm⟩ := k0; exact DataW.trod_lt m _ _ _ hm
  have lt1 : ∀ x ∈ p1, x.block < W.heap.size := by obtain ⟨m, hm⟩ := k1; exact DataW.trod_lt m _ _ _ hm
  have lt2 : ∀ x ∈ p2, x.block < W.heap.size := by obtain ⟨m, hm⟩ := k2; exact DataW.trod_lt m _ _ _ hm
  obtain ⟨f0, g0⟩ := h0
  obtain ⟨f1, g1⟩ := h1
  have lt3 : ∀ x ∈ p3, x.block < W.heap.size := by obtain ⟨m, hm⟩ := k3; exact DataW.trod_lt m _ _ _ hm
  obtain ⟨f2, g2⟩ := h2
  obtain ⟨f3, g3⟩ := h3
  obtain ⟨x, L, e0, hx, hxp, hxf, hxd⟩ := openb_place g0 (by show Rows.uptoBulk d0 ≤ _; omega)
  have hxr := openb_round g0 e0
  have e0' : c0.toList = placeCells x L := e0
  obtain rfl : c0 = (placeCells x L).toArray := by rw [← e0']
  obtain ⟨A, n, c, xs, e1, hn, hnc, hn2, hst⟩ := openb_steps g1 (by show Rows.uptoBulk d1 ≤ _; omega)
  injection e1 with e1a e1b e1c
  subst e1a e1b e1c
  obtain ⟨nm, e2, hnm⟩ := openb_text g2
  have hnm' : nm.length + 1 ≤ Rows.uptoBulk d2 := hnm
  obtain ⟨D, dn, dc, bs, e3, hbl, hcc, hbb, hsp, hrb⟩ := open_rowb B8 Tryz.underlying26 (by kernel_rfl) decb_byte g3
  have hbb' : dn + 1 ≤ Rows.uptoBulk d3 := hbb
  injection e3 with e3a e3b e3c
  subst e3a e3b e3c
  have e2' : Value.string s2 = strV nm := e2
  rw [e2'] at hval hW' k2 ⊢
  clear hA0 g0 g1 g2 g3 e0 e2 e2' hval r0 r1 r2 r3 hA hk
  have hno : x.ok = false ∨ x.ok = true := by cases x.ok <;> simp
  have post : ∀ W', Below W.heap.size W W' → ∃ v, Ending.returned (.bool true) = .returned v ∧ Rows.atomicAloneSpec.post enc Tryz.prog Tryz.f5 false true false false W #[.agg (placeCells x L).toArray, .slice a1 n1 cap1, strV nm, .slice a3 n3 cap3] v W' := fun W' bel =>
    ⟨_, rfl, _, _, _, [], _, [], hW', trodAll_mk1 (shut_bool Tryz.underlying4 _),
      (trodAll_cons_mk (Below.trod laidOut (by kernel_rfl) (of_decide_eq_true (by kernel_rfl)) k0 bel lt0)
      (trodAll_cons_mk (Below.trod laidOut (by kernel_rfl) (of_decide_eq_true (by kernel_rfl)) k1 bel lt1)
      (trodAll_cons_mk (Below.trod laidOut (by kernel_rfl) (of_decide_eq_true (by kernel_rfl)) k2 bel lt2)
      (trodAll_cons_mk (Below.trod laidOut (by kernel_rfl) (of_decide_eq_true (by kernel_rfl)) k3 bel lt3) trodAll_mk0)))), rfl, bel.frame _, fun h => by cases h⟩
  rcases hno with hno | hno
  · refine (alone_no W x L hx hno a1 n1 cap1 nm a3 n3 cap3).mono fun e W' ⟨he, bel⟩ => ?_
    subst he
    exact post W' bel
  · refine (alone_yes W x L hx hno a1 n1 cap1 xs hn hnc hst hn2 _ _ (place_keptM x (by omega) hxr hno (by omega) (fun f hf => by have := hxd f hf; omega)) hxf nm (by simp only [maxLen]; omega) a3 n3 cap3 bs hbl.symm (by omega) hrb).mono fun e W' ⟨he, bel⟩ => ?_
    subst he
    exact post W' bel

set_option maxRecDepth 100000 in
theorem lifted (os : Os) (started : os.Started) (H : Type) (enc : TypeId × Value → H) (F : Stop.Interp) :
    ReturnsInHanded {} Tryz.checked os 5 .any ((Rows.OpenSpec.upto Rows.atomicAloneSpec).pre6 enc Tryz.prog Tryz.f5 Rows.atomicAloneUptoRow.domain false) (((Rows.OpenSpec.upto Rows.atomicAloneSpec).at F).post enc Tryz.prog Tryz.f5 false true false false) := by
  refine returnsInHanded_of_cond (C := Tryz.checked) (s := Rows.OpenSpec.upto Rows.atomicAloneSpec) (k := Rows.uptoSmall) rfl own started (by kernel_rfl) Tryz.func5
    (OpenSpec.witness (enc := enc) (C := Tryz.checked) (s := Rows.OpenSpec.upto Rows.atomicAloneSpec) (k := Rows.uptoSmall) rfl false ⟨#[], #[.agg #[.bool false, .int .i64 0, .slice none 0 0, .slice none 0 0, .bool false, .bool false, .int .i64 0, .int .i64 0, .int .i64 0], .slice none 0 0, .string ⟨#[]⟩, .slice none 0 0], []⟩ 8 (by kernel_rfl) (by kernel_rfl) (by kernel_rfl)
      (x := ([.agg [.lit (.bool false), .lit (.int .i64 0), .nil, .nil, .lit (.bool false), .lit (.bool false), .lit (.int .i64 0), .lit (.int .i64 0), .lit (.int .i64 0)], .nil, .lit (.string []), .nil], [], [])) (by kernel_rfl) rfl (by kernel_rfl)) ?_
  intro W base args ds gs before hval hW _ hk _
  exact contract H enc W base args ds gs before hval hW hk

theorem over : Rows.atomicAloneUptoRow.holds Tryz.pinned (Rows.OpenSpec.upto Rows.atomicAloneSpec) :=
  OpenClaim.holds_of_cond 5 Tryz.f5 rfl rfl rfl rfl rfl rfl rfl ⟨rfl, rfl, rfl, rfl, rfl⟩ rfl rfl rfl rfl rfl (by kernel_rfl) Tryz.func5 (by kernel_rfl)
    (of_decide_eq_true (by kernel_rfl)) (by unfold Func.isWrapper; first | (rw [if_pos (by decide +kernel)]; kernel_rfl) | (rw [if_neg (by decide +kernel)]; exact ⟨rfl, rfl⟩))
    (fun os started H enc _ F => lifted os started H enc F)

/-- THE STATEMENT -/
theorem proved : Rows.AtomicAloneUptoSaid := over
#print axioms proved
end Go.Proofs.YtdmcjomcbhdcbaaGreat.atomicAlone
