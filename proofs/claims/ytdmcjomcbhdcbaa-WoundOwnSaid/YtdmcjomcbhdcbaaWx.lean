/- What is done with a wound: Arm, Fuse; the builtin copy over elements of several cells. -/
import Derived.Test.YtdmcjomcbhdcbaaLe
import Derived.Laws.CopyOwn
import Derived.Laws.MakeOwn
namespace Go.Proofs.Ytdmcjomcbhdcbaa
open Go.RowKit Go.Maps

section
variable {P : Program} (w : World)
/-- The builtin copy over elements of several cells. -/
theorem run_copy_wide (dT sT ty elem : TypeId) (size : Nat) (g dLen dCap : Nat) (a : Addr) (sLen sCap : Nat) (cur : Array Value) (t : TypeId) (cs : List Value)
    (hu : P.underlying dT = some (.slice elem)) (hs : (P.info? elem).map (·.size) = some size)
    (hg : w.heap[g]? = some (.cells cur t (0, 0))) (hn : cs.length = Nat.min sLen dLen * size)
    (hsrc : ∀ j v, cs[j]? = some v → w.cell? (a.add j) = some v) (hfit : cs.length = cur.size) (h1 : ∀ v ∈ cs, v.oneCell' = true) :
    (Builtin.copy_ #[dT, sT] ty #[.slice (some ⟨g, 0, none⟩) dLen dCap, .slice (some a) sLen sCap]).run P w = .ok (goInt (Nat.min sLen dLen)) (w.setRow g cs.toArray) := by
  have hl := run_loadCells_list (P := P) w a cs hsrc
  have hst := run_storeCells_at P g 0 t cs 0 cur w hg (by simp; omega) h1
  have hd : cur.toList.drop cs.length = [] := List.drop_of_length_le (by simp; omega)
  simp only [Nat.zero_add, List.take_zero, List.nil_append, hd, List.append_nil] at hst
  cases hq : P.info? elem with
  | none => simp [hq] at hs
  | some i =>
    have hi : i.size = size := by simpa [hq] using hs
    simp [Builtin.copy_, run_underlying hu, Builtin.lenOf, Builtin.firstCells, sizeOf, typeInfo, hq, hi, ← hn, hl, hst]
end

theorem faultInfo : (Try.prog.info? 46).map (fun i => (i.zero, i.size, i.bytes)) = some (some (.agg #[.int .i64 0, .int .i64 0]), 2, 16) := by kernel_rfl
theorem faultSize : (Try.prog.info? 46).map (·.size) = some 2 := by kernel_rfl
theorem planCells_length (l : List (Int × Int)) : (planCells l).length = l.length * 2 := by
  induction l with
  | nil => rfl
  | cons x r ih =>
    have e : planCells (x :: r) = [.int .i64 x.1, .int .i64 x.2] ++ planCells r := rfl
    rw [e, List.length_append, ih, List.length_cons]; simp; omega
theorem planCells_one (l : List (Int × Int)) : ∀ v ∈ planCells l, v.oneCell' = true := by
  intro v hv
  obtain ⟨f, _, hf⟩ := List.mem_flatMap.1 hv
  simp at hf
  rcases hf with rfl | rfl <;> rfl

theorem arm_nil (s : Value) (w : World) : Calls Try.prog 22 #[.pointer none, s] w fun e w' => e = .returned (.tuple #[]) ∧ w = w' := by
  go_enter Try.func22, Try.ntmps22
  go_wp2
  exact bodyPost_ret (v := .tuple #[]) (by simp only [results, Try.results22]; go_simp) rfl ⟨rfl, rfl⟩

theorem copy_plan (W : World) (g n c B : Nat) (A : Option Addr) (l : List (Int × Int)) (cur : Array Value) (hb : Blk W g 46 cur) (hs : cur.size = n * 2) (hr : Reads W B 2 A n (planCells l)) (hl : l.length = n) :
    ∃ W2, (Builtin.copy_ #[47, 47] 3 #[.slice (some ⟨g, 0, none⟩) n n, .slice A n c]).run Try.prog W = .ok (goInt n) W2 ∧ Blk W2 g 46 (planCells l).toArray ∧ Touch (· = g) W W2 ∧ W2.heap.size = W.heap.size := by
  have hpl : (planCells l).length = n * 2 := by rw [planCells_length, hl]
  cases A with
  | none =>
    have hn : n = 0 := by
      rcases Nat.eq_zero_or_pos n with h | h
      · exact h
      · obtain ⟨ad, e, _⟩ := hr.2 h; cases e
    subst hn
    have hll : l = [] := List.eq_nil_of_length_eq_zero hl
    subst hll
    have hcur : cur = #[] := Array.eq_empty_of_size_eq_zero (by omega)
    subst hcur
    refine ⟨W, ?_, hb, Touch.refl _ _, rfl⟩
    obtain ⟨i, hi, _, hz1, _⟩ := info_parts faultInfo
    simp [Builtin.copy_, run_underlying Try.underlying47, Builtin.lenOf, Builtin.firstCells, sizeOf, typeInfo, hi, storeCells]
  | some ad =>
    refine ⟨_, ?_, setRow_heap W g cur _ _ _ hb, ⟨rfl, rfl, rfl, by simp [World.setRow], fun k _ hk => setRow_other W g k _ hk⟩, by simp [World.setRow]⟩
    have hsrc : ∀ j v, (planCells l)[j]? = some v → W.cell? (ad.add j) = some v := by
      intro j v hj
      rcases Nat.eq_zero_or_pos n with h | h
      · have : planCells l = [] := List.eq_nil_of_length_eq_zero (by omega)
        rw [this] at hj; simp at hj
      · obtain ⟨ad', e, _, hc⟩ := hr.2 h
        injection e with e; subst e; exact hc j v hj
    have := run_copy_wide (P := Try.prog) W 47 47 3 46 2 g n n ad n c cur 46 (planCells l) Try.underlying47 faultSize hb (by rw [hpl, show Nat.min n n = n from Nat.min_self n]) hsrc (by omega) (planCells_one l)
    rwa [show Nat.min n n = n from Nat.min_self n] at this

set_option maxRecDepth 100000 in
set_option maxHeartbeats 1000000 in
theorem arm_any (q : Nat) (dv : Value) (X : Wnd) (F : Nat → Prop) (A : Option Addr) (n c : Nat) (l : List (Int × Int)) (w : World) (h : Wn w q dv X F) (hr : Reads w w.heap.size 2 A n (planCells l)) (hA : 0 < n → ∀ ad, A = some ad → ¬F ad.block) (hn : n * 16 ≤ 140737488351232) :
    Calls Try.prog 22 #[.pointer (some ⟨q, 0, none⟩), .slice A n c] w fun e w' =>
      e = .returned (.tuple #[]) ∧ Wn w' q dv (X.arm l) (grow F w w') ∧ Touch F w w' := by
  obtain ⟨pv, fq, h, hF0⟩ := h
  have hl : l.length = n := by have := hr.1; rw [planCells_length] at this; omega
  obtain ⟨i, hi, hz0, hz1, hz2⟩ := info_parts faultInfo
  have hmk := fun (W : World) => run_make (P := Try.prog) W 47 46 i _ Try.underlying47 hi hz0 .i64 .i64 (n : Int) (n : Int) (by omega) (Int.le_refl _) (by rw [hz2]; omega) (by omega)
  simp only [Int.toNat_natCast, hz1] at hmk
  have hql := h.head.lt
  obtain ⟨W1, hW1⟩ : ∃ W1, W1 = (w.setCell ⟨q, 3, none⟩ (.slice (some ⟨w.heap.size, 0, none⟩) n n)).alloc (.cells (madeCells #[.int .i64 0, .int .i64 0] (n * 2)) 46) := ⟨_, rfl⟩
  have hqh : q ≠ w.heap.size := Nat.ne_of_lt hql
  have hBh : Blk W1 w.heap.size 46 (madeCells #[.int .i64 0, .int .i64 0] (n * 2)) := by
    rw [hW1]
    have := Blk.new (w.setCell ⟨q, 3, none⟩ (.slice (some ⟨w.heap.size, 0, none⟩) n n)) 46 (madeCells #[.int .i64 0, .int .i64 0] (n * 2))
    rwa [size_set] at this
  have hT1 : Touch (· = q) w W1 := by rw [hW1]; exact ((Touch.refl (· = q) w).set (p := ⟨q, 3, none⟩) rfl _).more _
  have hs1 : W1.heap.size = w.heap.size + 1 := by rw [hW1, alloc_size, size_set]
  have hq1 : Blk W1 q 57 #[dv, .bool X.down, .bool X.away, .slice (some ⟨w.heap.size, 0, none⟩) n n, .int .i64 X.calls, .int .i64 X.round, fuseV fq] := by
    rw [hW1]; exact (h.head.set_ 3 _).alloc _
  have hFq : F q := hF0 q (.inl rfl)
  have hR1 : Reads W1 w.heap.size 2 A n (planCells l) := ⟨hr.1, fun h0 => by
    obtain ⟨ad, e, hb, hc⟩ := hr.2 h0
    refine ⟨ad, e, hb, fun j u hu => ?_⟩
    rw [← hc j u hu]
    exact World.cell?_of_block (hT1.block _ (by rw [block_of_add]; exact hb) (by rw [block_of_add]; intro e'; exact hA h0 ad e (by rw [e']; exact hFq)))⟩
  obtain ⟨W2, hrun, hBh2, hT2, hs2⟩ := copy_plan W1 w.heap.size n c _ A l _ hBh (size_madeCells _ _) hR1 hl
  rw [hW1] at hrun
  have hq2 : Blk W2 q 57 #[dv, .bool X.down, .bool X.away, .slice (some ⟨w.heap.size, 0, none⟩) n n, .int .i64 X.calls, .int .i64 X.round, fuseV fq] := (hT2.block q (by omega) hqh).trans hq1
  have h3 : w.cell? ⟨q, 3, none⟩ = some pv := h.head.cell 3
  have h3f : w.frozen? ⟨q, 3, none⟩ = false := h.head.frozen 3
  have h4 : W2.cell? ⟨q, 4, none⟩ = some (.int .i64 X.calls) := hq2.cell 4
  have h4f : W2.frozen? ⟨q, 4, none⟩ = false := hq2.frozen 4
  have HT : Hid (Touch F w W2) := Lib.hid ((hT1.mono fun k _ hk => by rw [hk]; exact hFq).trans (hT2.mono fun k _ hk => by subst hk; exact .inr ⟨Nat.le_refl _, by omega⟩))
  have HN : Hid (Wn (W2.setCell ⟨q, 4, none⟩ (.int .i64 0)) q dv (X.arm l) (grow F w W2)) := Lib.hid (by
    have hfar : ∀ k, k ≠ q → k ≠ w.heap.size → k < w.heap.size → (W2.setCell ⟨q, 4, none⟩ (.int .i64 0)).heap[k]? = w.heap[k]? := fun k h1 h2 h3 =>
      (Below.heap_setCell _ _ _ k h1).trans ((hT2.block k (by omega) h2).trans (hT1.block k h3 h1))
    refine ⟨.slice (some ⟨w.heap.size, 0, none⟩) n n, fq, ⟨hq2.set_ 4 _, ?_, h.none_, fun b e => ?_⟩, ?_⟩
    · have e : (X.arm l).plan = l := rfl
      rw [e, hl]
      refine ⟨by rw [planCells_length, hl], .inr ⟨w.heap.size, n, _, rfl, Nat.zero_le _, hBh2.far (p := ⟨q, 4, none⟩) (Ne.symm hqh) _, Nat.le_refl _, by unfold maxLen; omega, by simp [planCells_length, hl], ?_⟩⟩
      rw [List.take_of_length_le (by simp [planCells_length, hl])]
    · obtain ⟨f, hf, hb⟩ := h.some_ b e
      have hbl := hb.lt
      exact ⟨f, hf, (hfar b (hb.ne_ h.head (by decide)) (by omega) hbl).trans hb⟩
    · rintro k (hk | hk | hk)
      · exact .inl (hF0 k (.inl hk))
      · injection hk with hk; subst hk; exact .inr ⟨Nat.le_refl _, by show w.heap.size < W2.heap.size; omega⟩
      · exact .inl (hF0 k (.inr (.inr hk))))
  have HFQ := Lib.hid hFq
  clear hi hz0 hz1 hz2 h hr hl hF0 hA hW1 hBh hT1 hs1 hq1 hFq hR1 hBh2 hT2 hs2 hq2
  go_enter Try.func22, Try.ntmps22
  go_wp2
  go_end0
  refine ⟨rfl, HN.out.mono fun k hk => ?_, HT.out.set HFQ.out _⟩
  rcases hk with hk | hk
  · exact .inl hk
  · exact .inr ⟨hk.1, by rw [size_set]; exact hk.2⟩

theorem fuse_any (q : Nat) (dv : Value) (X : Wnd) (F : Nat → Prop) (r k i : Int) (w : World) (h : Wn w q dv X F) :
    Calls Try.prog 24 #[.pointer (some ⟨q, 0, none⟩), .int .i64 r, .int .i64 k, .int .i64 i] w fun e w' =>
      e = .returned (.tuple #[]) ∧ Wn w' q dv (X.setFuse r k i) (grow F w w') ∧ Touch F w w' := by
  obtain ⟨pv, fq, h, hF⟩ := h
  have h6 : w.cell? ⟨q, 6, none⟩ = some (fuseV fq) := h.head.cell 6
  have h6f : w.frozen? ⟨q, 6, none⟩ = false := h.head.frozen 6
  have hq : F q := hF q (.inl rfl)
  have hql := h.head.lt
  have HA := Lib.hid h
  have HF := Lib.hid hF
  clear h hF
  by_cases hr : 0 ≤ r
  · have HR : Hid (X.setFuse r k i = { X with fuse := some ⟨r, k, i⟩ }) := Lib.hid (by unfold Wnd.setFuse; rw [if_pos hr])
    rw [HR.out]
    go_enter Try.func24, Try.ntmps24
    go_wp2
    go_end0
    have hT : Touch F w (((w.setCell ⟨q, 6, none⟩ (.pointer none)).setCell ⟨q, 6, none⟩ (.pointer (some ⟨w.heap.size, 0, none⟩))).alloc (.cells #[.int .i64 r, .int .i64 k, .int .i64 i] 96)) := (((Touch.refl _ _).set hq _).set hq _).more _
    refine ⟨rfl, ⟨pv, some w.heap.size, ⟨?_, ?_, fun e => (by cases e), fun b e => ?_⟩, ?_⟩, hT⟩
    · exact ((HA.out.head.set_ 6 (.pointer none)).set_ 6 (.pointer (some ⟨w.heap.size, 0, none⟩))).alloc _
    · refine ownsRow_keep HA.out.plan fun k hk => ?_
      have hkl := (HA.out.plan.lt k hk).2
      have hkq : k ≠ q := fun e => own_blk_ne HA.out.plan HA.out.head (by decide) (by rw [hk, e])
      exact (Below.heap_alloc _ _ k (by rw [size_set, size_set]; exact hkl)).trans ((Below.heap_setCell _ _ _ k hkq).trans (Below.heap_setCell _ _ _ k hkq))
    · injection e with e; subst e
      refine ⟨_, rfl, ?_⟩
      have := Blk.new ((w.setCell ⟨q, 6, none⟩ (.pointer none)).setCell ⟨q, 6, none⟩ (.pointer (some ⟨w.heap.size, 0, none⟩))) 96 #[.int .i64 r, .int .i64 k, .int .i64 i]
      rwa [size_set, size_set] at this
    · rintro j (hj | hj | hj)
      · exact .inl (HF.out j (.inl hj))
      · exact .inl (HF.out j (.inr (.inl hj)))
      · injection hj with hj; subst hj
        exact .inr ⟨Nat.le_refl _, by rw [alloc_size, size_set, size_set]; omega⟩
  · have HR : Hid (X.setFuse r k i = { X with fuse := none }) := Lib.hid (by unfold Wnd.setFuse; rw [if_neg hr])
    rw [HR.out]
    have hr' : r < 0 := by omega
    go_enter Try.func24, Try.ntmps24
    go_wp2
    go_end0
    refine ⟨rfl, ⟨pv, none, HA.out.unfuse, fun k hk => .inl ?_⟩, Touch.setCell _ _ _ hq⟩
    rcases hk with hk | hk | hk
    · exact HF.out k (.inl hk)
    · exact HF.out k (.inr (.inl hk))
    · cases hk

theorem fuse_nil (r k i : Int) (w : World) : Calls Try.prog 24 #[.pointer none, .int .i64 r, .int .i64 k, .int .i64 i] w fun e w' => e = .returned (.tuple #[]) ∧ w = w' := by
  go_enter Try.func24, Try.ntmps24
  go_wp2
  exact bodyPost_ret (v := .tuple #[]) (by simp only [results, Try.results24]; go_simp) rfl ⟨rfl, rfl⟩
end Go.Proofs.Ytdmcjomcbhdcbaa
