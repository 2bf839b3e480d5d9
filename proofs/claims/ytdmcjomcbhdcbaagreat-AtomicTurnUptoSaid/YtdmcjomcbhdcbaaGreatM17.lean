/- What is done with a wound: Arm, Fuse; the builtin copy over elements of several cells.; What is done with a wound on its drive; a wound and its drive above a place of the memory.; The document's gate: its methods, the blow, what it asks, and the gate of a wound. -/
import Derived.Test.YtdmcjomcbhdcbaaGreatM12
import Derived.Test.YtdmcjomcbhdcbaaGreatM8
import Derived.Laws.CopyOwn
import Derived.Laws.MakeOwn
import Derived.IntWalk
import Derived.RegionTactic
import Derived.ChangeAlike
import Derived.Deep.RegionHeld3
namespace Go.Proofs.YtdmcjomcbhdcbaaGreat
open Go.RowKit Go.Maps
theorem Touch.more {G : Nat → Prop} {a b : World} (h : Touch G a b) (o : Obj) : Touch G a (b.alloc o) :=
  ⟨h.os, h.tape, h.output, by have := h.size; rw [alloc_size]; omega, fun k hk hn => (Below.heap_alloc b o k (Nat.lt_of_lt_of_le hk h.size)).trans (h.block k hk hn)⟩


section
variable {P : Program} (w : World)
/-- The builtin copy over elements of several cells. -/
theorem run_copy_wide (dT sT ty elem : TypeId) (size : Nat) (g dLen dCap : Nat) (a : Addr) (sLen sCap : Nat) (cur : Array Value) (t : TypeId) (cs : List Value)
    (hu : P.underlying dT = some (.slice elem)) (hs : (P.info? elem).map (·.size) = some size)
    (hg : w.heap[g]? = some (.cells cur t (0, 0))) (hn : cs.length = Nat.min sLen dLen * size)
    (hsrc : ∀ j v, cs[j]? = some v → w.cell? (a.add j) = some v) (hfit : cs.length = cur.size) (h1 : ∀ v ∈ cs, v.oneCell' = true) :
    (Builtin.copy_ #[dT, sT] ty #[.slice (some ⟨g, 0, none⟩) dLen dCap, .slice (some a) sLen sCap]).run P w = .ok (goInt (Nat.min sLen dLen)) (w.setRow g cs.toArray) := by
  have hl := run_loadCells_list (P := P) w a cs hsrc
  have hst := run_storeCells_at P g 0 t cs 0 cur w hg (by simp; omega) h1
  have hd : cur.toList.drop cs.length = [] := List.drop_of_length_le (by simp; omega)
  simp only [Nat.zero_add, List.take_zero, List.nil_append, hd, List.append_nil] at hst
  cases hq : P.info? elem with
  | none => simp [hq] at hs
  | some i =>
    have hi : i.size = size := by simpa [hq] using hs
    simp [Builtin.copy_, run_underlying hu, Builtin.lenOf, Builtin.firstCells, sizeOf, typeInfo, hq, hi, ← hn, hl, hst]
end

theorem faultInfo : (Tryz.prog.info? 181).map (fun i => (i.zero, i.size, i.bytes)) = some (some (.agg #[.int .i64 0, .int .i64 0]), 2, 16) := by kernel_rfl
theorem faultSize : (Tryz.prog.info? 181).map (·.size) = some 2 := by kernel_rfl
theorem planCells_length (l : List (Int × Int)) : (planCells l).length = l.length * 2 := by
  induction l with
  | nil => rfl
  | cons x r ih =>
    have e : planCells (x :: r) = [.int .i64 x.1, .int .i64 x.2] ++ planCells r := rfl
    rw [e, List.length_append, ih, List.length_cons]; simp; omega
theorem planCells_one (l : List (Int × Int)) : ∀ v ∈ planCells l, v.oneCell' = true := by
  intro v hv
  obtain ⟨f, _, hf⟩ := List.mem_flatMap.1 hv
  simp at hf
  rcases hf with rfl | rfl <;> rfl

theorem arm_nil (s : Value) (w : World) : Calls Tryz.prog 56 #[.pointer none, s] w fun e w' => e = .returned (.tuple #[]) ∧ w = w' := by
  go_enter Tryz.func56, Tryz.ntmps56
  go_wp2
  exact bodyPost_ret (v := .tuple #[]) (by simp only [results, Tryz.results56]; go_simp) rfl ⟨rfl, rfl⟩

theorem copy_plan (W : World) (g n c B : Nat) (A : Option Addr) (l : List (Int × Int)) (cur : Array Value) (hb : Blk W g 181 cur) (hs : cur.size = n * 2) (hr : Reads W B 2 A n (planCells l)) (hl : l.length = n) :
    ∃ W2, (Builtin.copy_ #[23, 23] 3 #[.slice (some ⟨g, 0, none⟩) n n, .slice A n c]).run Tryz.prog W = .ok (goInt n) W2 ∧ Blk W2 g 181 (planCells l).toArray ∧ Touch (· = g) W W2 ∧ W2.heap.size = W.heap.size := by
  have hpl : (planCells l).length = n * 2 := by rw [planCells_length, hl]
  cases A with
  | none =>
    have hn : n = 0 := by
      rcases Nat.eq_zero_or_pos n with h | h
      · exact h
      · obtain ⟨ad, e, _⟩ := hr.2 h; cases e
    subst hn
    have hll : l = [] := List.eq_nil_of_length_eq_zero hl
    subst hll
    have hcur : cur = #[] := Array.eq_empty_of_size_eq_zero (by omega)
    subst hcur
    refine ⟨W, ?_, hb, Touch.refl _ _, rfl⟩
    obtain ⟨i, hi, _, hz1, _⟩ := info_parts faultInfo
    simp [Builtin.copy_, run_underlying Tryz.underlying23, Builtin.lenOf, Builtin.firstCells, sizeOf, typeInfo, hi, storeCells]
  | some ad =>
    refine ⟨_, ?_, setRow_heap W g cur _ _ _ hb, ⟨rfl, rfl, rfl, by simp [World.setRow], fun k _ hk => setRow_other W g k _ hk⟩, by simp [World.setRow]⟩
    have hsrc : ∀ j v, (planCells l)[j]? = some v → W.cell? (ad.add j) = some v := by
      intro j v hj
      rcases Nat.eq_zero_or_pos n with h | h
      · have : planCells l = [] := List.eq_nil_of_length_eq_zero (by omega)
        rw [this] at hj; simp at hj
      · obtain ⟨ad', e, _, hc⟩ := hr.2 h
        injection e with e; subst e; exact hc j v hj
    have := run_copy_wide (P := Tryz.prog) W 23 23 3 181 2 g n n ad n c cur 181 (planCells l) Tryz.underlying23 faultSize hb (by rw [hpl, show Nat.min n n = n from Nat.min_self n]) hsrc (by omega) (planCells_one l)
    rwa [show Nat.min n n = n from Nat.min_self n] at this

set_option maxRecDepth 100000 in
set_option maxHeartbeats 1000000 in
theorem arm_any (q : Nat) (dv : Value) (X : Wnd) (F : Nat → Prop) (A : Option Addr) (n c : Nat) (l : List (Int × Int)) (w : World) (h : Wn w q dv X F) (hr : Reads w w.heap.size 2 A n (planCells l)) (hA : 0 < n → ∀ ad, A = some ad → ¬F ad.block) (hn : n * 16 ≤ 140737488351232) :
    Calls Tryz.prog 56 #[.pointer (some ⟨q, 0, none⟩), .slice A n c] w fun e w' =>
      e = .returned (.tuple #[]) ∧ Wn w' q dv (X.arm l) (grow F w w') ∧ Touch F w w' := by
  obtain ⟨pv, fq, h, hF0⟩ := h
  have hl : l.length = n := by have := hr.1; rw [planCells_length] at this; omega
  obtain ⟨i, hi, hz0, hz1, hz2⟩ := info_parts faultInfo
  have hmk := fun (W : World) => run_make (P := Tryz.prog) W 23 181 i _ Tryz.underlying23 hi hz0 .i64 .i64 (n : Int) (n : Int) (by omega) (Int.le_refl _) (by rw [hz2]; omega) (by omega)
  simp only [Int.toNat_natCast, hz1] at hmk
  have hql := h.head.lt
  obtain ⟨W1, hW1⟩ : ∃ W1, W1 = (w.setCell ⟨q, 3, none⟩ (.slice (some ⟨w.heap.size, 0, none⟩) n n)).alloc (.cells (madeCells #[.int .i64 0, .int .i64 0] (n * 2)) 181) := ⟨_, rfl⟩
  have hqh : q ≠ w.heap.size := Nat.ne_of_lt hql
  have hBh : Blk W1 w.heap.size 181 (madeCells #[.int .i64 0, .int .i64 0] (n * 2)) := by
    rw [hW1]
    have := Blk.new (w.setCell ⟨q, 3, none⟩ (.slice (some ⟨w.heap.size, 0, none⟩) n n)) 181 (madeCells #[.int .i64 0, .int .i64 0] (n * 2))
    rwa [size_set] at this
  have hT1 : Touch (· = q) w W1 := by rw [hW1]; exact ((Touch.refl (· = q) w).set (p := ⟨q, 3, none⟩) rfl _).more _
  have hs1 : W1.heap.size = w.heap.size + 1 := by rw [hW1, alloc_size, size_set]
  have hq1 : Blk W1 q 47 #[dv, .bool X.down, .bool X.away, .slice (some ⟨w.heap.size, 0, none⟩) n n, .int .i64 X.calls, .int .i64 X.round, fuseV fq] := by
    rw [hW1]; exact (h.head.set_ 3 _).alloc _
  have hFq : F q := hF0 q (.inl rfl)
  have hR1 : Reads W1 w.heap.size 2 A n (planCells l) := ⟨hr.1, fun h0 => by
    obtain ⟨ad, e, hb, hc⟩ := hr.2 h0
    refine ⟨ad, e, hb, fun j u hu => ?_⟩
    rw [← hc j u hu]
    exact World.cell?_of_block (hT1.block _ (by rw [block_of_add]; exact hb) (by rw [block_of_add]; intro e'; exact hA h0 ad e (by rw [e']; exact hFq)))⟩
  obtain ⟨W2, hrun, hBh2, hT2, hs2⟩ := copy_plan W1 w.heap.size n c _ A l _ hBh (size_madeCells _ _) hR1 hl
  rw [hW1] at hrun
  have hq2 : Blk W2 q 47 #[dv, .bool X.down, .bool X.away, .slice (some ⟨w.heap.size, 0, none⟩) n n, .int .i64 X.calls, .int .i64 X.round, fuseV fq] := (hT2.block q (by omega) hqh).trans hq1
  have h3 : w.cell? ⟨q, 3, none⟩ = some pv := h.head.cell 3
  have h3f : w.frozen? ⟨q, 3, none⟩ = false := h.head.frozen 3
  have h4 : W2.cell? ⟨q, 4, none⟩ = some (.int .i64 X.calls) := hq2.cell 4
  have h4f : W2.frozen? ⟨q, 4, none⟩ = false := hq2.frozen 4
  have HT : Hid (Touch F w W2) := Lib.hid ((hT1.mono fun k _ hk => by rw [hk]; exact hFq).trans (hT2.mono fun k _ hk => by subst hk; exact .inr ⟨Nat.le_refl _, by omega⟩))
  have HN : Hid (Wn (W2.setCell ⟨q, 4, none⟩ (.int .i64 0)) q dv (X.arm l) (grow F w W2)) := Lib.hid (by
    have hfar : ∀ k, k ≠ q → k ≠ w.heap.size → k < w.heap.size → (W2.setCell ⟨q, 4, none⟩ (.int .i64 0)).heap[k]? = w.heap[k]? := fun k h1 h2 h3 =>
      (Below.heap_setCell _ _ _ k h1).trans ((hT2.block k (by omega) h2).trans (hT1.block k h3 h1))
    refine ⟨.slice (some ⟨w.heap.size, 0, none⟩) n n, fq, ⟨hq2.set_ 4 _, ?_, h.none_, fun b e => ?_⟩, ?_⟩
    · have e : (X.arm l).plan = l := rfl
      rw [e, hl]
      refine ⟨by rw [planCells_length, hl], .inr ⟨w.heap.size, n, _, rfl, Nat.zero_le _, hBh2.far (p := ⟨q, 4, none⟩) (Ne.symm hqh) _, Nat.le_refl _, by unfold maxLen; omega, by simp [planCells_length, hl], ?_⟩⟩
      rw [List.take_of_length_le (by simp [planCells_length, hl])]
    · obtain ⟨f, hf, hb⟩ := h.some_ b e
      have hbl := hb.lt
      exact ⟨f, hf, (hfar b (hb.ne_ h.head (by decide)) (by omega) hbl).trans hb⟩
    · rintro k (hk | hk | hk)
      · exact .inl (hF0 k (.inl hk))
      · injection hk with hk; subst hk; exact .inr ⟨Nat.le_refl _, by show w.heap.size < W2.heap.size; omega⟩
      · exact .inl (hF0 k (.inr (.inr hk))))
  have HFQ := Lib.hid hFq
  clear hi hz0 hz1 hz2 h hr hl hF0 hA hW1 hBh hT1 hs1 hq1 hFq hR1 hBh2 hT2 hs2 hq2
  go_enter Tryz.func56, Tryz.ntmps56
  go_wp2
  go_end0
  refine ⟨rfl, HN.out.mono fun k hk => ?_, HT.out.set HFQ.out _⟩
  rcases hk with hk | hk
  · exact .inl hk
  · exact .inr ⟨hk.1, by rw [size_set]; exact hk.2⟩

theorem fuse_any (q : Nat) (dv : Value) (X : Wnd) (F : Nat → Prop) (r k i : Int) (w : World) (h : Wn w q dv X F) :
    Calls Tryz.prog 60 #[.pointer (some ⟨q, 0, none⟩), .int .i64 r, .int .i64 k, .int .i64 i] w fun e w' =>
      e = .returned (.tuple #[]) ∧ Wn w' q dv (X.setFuse r k i) (grow F w w') ∧ Touch F w w' := by
  obtain ⟨pv, fq, h, hF⟩ := h
  have h6 : w.cell? ⟨q, 6, none⟩ = some (fuseV fq) := h.head.cell 6
  have h6f : w.frozen? ⟨q, 6, none⟩ = false := h.head.frozen 6
  have hq : F q := hF q (.inl rfl)
  have hql := h.head.lt
  have HA := Lib.hid h
  have HF := Lib.hid hF
  clear h hF
  by_cases hr : 0 ≤ r
  · have HR : Hid (X.setFuse r k i = { X with fuse := some ⟨r, k, i⟩ }) := Lib.hid (by unfold Wnd.setFuse; rw [if_pos hr])
    rw [HR.out]
    go_enter Tryz.func60, Tryz.ntmps60
    go_wp2
    go_end0
    have hT : Touch F w (((w.setCell ⟨q, 6, none⟩ (.pointer none)).setCell ⟨q, 6, none⟩ (.pointer (some ⟨w.heap.size, 0, none⟩))).alloc (.cells #[.int .i64 r, .int .i64 k, .int .i64 i] 109)) := (((Touch.refl _ _).set hq _).set hq _).more _
    refine ⟨rfl, ⟨pv, some w.heap.size, ⟨?_, ?_, fun e => (by cases e), fun b e => ?_⟩, ?_⟩, hT⟩
    · exact ((HA.out.head.set_ 6 (.pointer none)).set_ 6 (.pointer (some ⟨w.heap.size, 0, none⟩))).alloc _
    · refine ownsRow_keep HA.out.plan fun k hk => ?_
      have hkl := (HA.out.plan.lt k hk).2
      have hkq : k ≠ q := fun e => own_blk_ne HA.out.plan HA.out.head (by decide) (by rw [hk, e])
      exact (Below.heap_alloc _ _ k (by rw [size_set, size_set]; exact hkl)).trans ((Below.heap_setCell _ _ _ k hkq).trans (Below.heap_setCell _ _ _ k hkq))
    · injection e with e; subst e
      refine ⟨_, rfl, ?_⟩
      have := Blk.new ((w.setCell ⟨q, 6, none⟩ (.pointer none)).setCell ⟨q, 6, none⟩ (.pointer (some ⟨w.heap.size, 0, none⟩))) 109 #[.int .i64 r, .int .i64 k, .int .i64 i]
      rwa [size_set, size_set] at this
    · rintro j (hj | hj | hj)
      · exact .inl (HF.out j (.inl hj))
      · exact .inl (HF.out j (.inr (.inl hj)))
      · injection hj with hj; subst hj
        exact .inr ⟨Nat.le_refl _, by rw [alloc_size, size_set, size_set]; omega⟩
  · have HR : Hid (X.setFuse r k i = { X with fuse := none }) := Lib.hid (by unfold Wnd.setFuse; rw [if_neg hr])
    rw [HR.out]
    have hr' : r < 0 := by omega
    go_enter Tryz.func60, Tryz.ntmps60
    go_wp2
    go_end0
    refine ⟨rfl, ⟨pv, none, HA.out.unfuse, fun k hk => .inl ?_⟩, Touch.setCell _ _ _ hq⟩
    rcases hk with hk | hk | hk
    · exact HF.out k (.inl hk)
    · exact HF.out k (.inr (.inl hk))
    · cases hk

theorem fuse_nil (r k i : Int) (w : World) : Calls Tryz.prog 60 #[.pointer none, .int .i64 r, .int .i64 k, .int .i64 i] w fun e w' => e = .returned (.tuple #[]) ∧ w = w' := by
  go_enter Tryz.func60, Tryz.ntmps60
  go_wp2
  exact bodyPost_ret (v := .tuple #[]) (by simp only [results, Tryz.results60]; go_simp) rfl ⟨rfl, rfl⟩
end Go.Proofs.YtdmcjomcbhdcbaaGreat
namespace Go.Proofs.YtdmcjomcbhdcbaaGreat
open Go.RowKit Go.Maps
theorem WD.below {w W : World} {q p : Nat} {X : Wnd} {S : Drv} {F : Nat → Prop} (h : WD w q p X S F) (hb : Below w.heap.size w W) : WD W q p X S F :=
  h.keep (Touch.of_below (F := fun _ => False) hb) fun _ _ h => h
theorem dr_lt {w : World} {p : Nat} {S : Drv} {F : Nat → Prop} (h : Dr w p S F) : Dr w p S fun k => F k ∧ k < w.heap.size := by
  obtain ⟨addr, L, e, hD, hF⟩ := h
  exact ⟨addr, L, e, hD, fun k hk => ⟨hF k hk, hD.foot_lt hk⟩⟩


section
variable {w w1 : World} {q p : Nat} {X Y : Wnd} {S T : Drv} {F FW FD : Nat → Prop}
theorem control_end (h : Apart w q p X S FW FD) (hF : ∀ k, FW k ∨ FD k → F k) (hw : Wn w1 q (.pointer (some ⟨p, 0, none⟩)) Y (grow FW w w1)) (ht : Touch FW w w1) :
    WD w1 q p Y S (grow F w w1) ∧ Touch F w w1 := by
  refine ⟨⟨grow FW w w1, FD, ⟨hw, h.dr.keep ht fun k hd hw => h.no k hw hd, fun k hk => ?_, fun k hk => Nat.lt_of_lt_of_le (h.dlt k hk) ht.size, fun k hk hd => ?_⟩, fun k hk => ?_⟩, ht.mono fun k _ hk => hF k (.inl hk)⟩
  · rcases hk with hk | hk
    · exact Nat.lt_of_lt_of_le (h.wlt k hk) ht.size
    · exact hk.2
  · rcases hk with hk | hk
    · exact h.no k hk hd
    · have := h.dlt k hd; omega
  · rcases hk with (hk | hk) | hk
    · exact .inl (hF k (.inl hk))
    · exact .inr hk
    · exact .inl (hF k (.inr hk))
theorem WD.wn (h : WD w q p X S F) : Wn w q (.pointer (some ⟨p, 0, none⟩)) X F := by
  obtain ⟨FW, FD, h, hF⟩ := h
  exact h.wn.mono fun k hk => hF k (.inl hk)
theorem WD.dr (h : WD w q p X S F) : Dr w p S F := by
  obtain ⟨FW, FD, h, hF⟩ := h
  exact h.dr.mono fun k hk => hF k (.inr hk)
theorem WD.lt (h : WD w q p X S F) : WD w q p X S fun k => F k ∧ k < w.heap.size := by
  obtain ⟨FW, FD, h, hF⟩ := h
  refine ⟨FW, FD, h, fun k hk => ⟨hF k hk, ?_⟩⟩
  rcases hk with hk | hk
  · exact h.wlt k hk
  · exact h.dlt k hk
end

theorem wpower_any (q p : Nat) (X : Wnd) (S : Drv) (F : Nat → Prop) (on : Bool) (w : World) (h : WD w q p X S F) :
    Calls Tryz.prog 14 #[.pointer (some ⟨q, 0, none⟩), .bool on] w fun e w' => e = .returned (.tuple #[]) ∧ WD w' q p { X with down := !on } S (grow F w w') ∧ Touch F w w' := by
  obtain ⟨FW, FD, hA, hF⟩ := h
  refine (power_any q _ X FW on w hA.wn).mono ?_
  rintro e w' ⟨he, hw, ht⟩
  exact ⟨he, control_end hA hF (hw.mono fun k hk => .inl hk) ht⟩
theorem woffline_any (q p : Nat) (X : Wnd) (S : Drv) (F : Nat → Prop) (off : Bool) (w : World) (h : WD w q p X S F) :
    Calls Tryz.prog 58 #[.pointer (some ⟨q, 0, none⟩), .bool off] w fun e w' => e = .returned (.tuple #[]) ∧ WD w' q p { X with away := off } S (grow F w w') ∧ Touch F w w' := by
  obtain ⟨FW, FD, hA, hF⟩ := h
  refine (offline_any q _ X FW off w hA.wn).mono ?_
  rintro e w' ⟨he, hw, ht⟩
  exact ⟨he, control_end hA hF (hw.mono fun k hk => .inl hk) ht⟩
theorem wrest_any (q p : Nat) (X : Wnd) (S : Drv) (F : Nat → Prop) (off : Bool) (w : World) (h : WD w q p X S F) (hX : X.Ok) :
    Calls Tryz.prog 12 #[.pointer (some ⟨q, 0, none⟩), .bool off] w fun e w' => e = .returned (.tuple #[]) ∧ WD w' q p (X.rest off) S (grow F w w') ∧ Touch F w w' := by
  obtain ⟨FW, FD, hA, hF⟩ := h
  refine (rest_any q _ X FW off w hA.wn hX).mono ?_
  rintro e w' ⟨he, hw, ht⟩
  exact ⟨he, control_end hA hF (hw.mono fun k hk => .inl hk) ht⟩
theorem wfuse_any (q p : Nat) (X : Wnd) (S : Drv) (F : Nat → Prop) (r k i : Int) (w : World) (h : WD w q p X S F) :
    Calls Tryz.prog 60 #[.pointer (some ⟨q, 0, none⟩), .int .i64 r, .int .i64 k, .int .i64 i] w fun e w' => e = .returned (.tuple #[]) ∧ WD w' q p (X.setFuse r k i) S (grow F w w') ∧ Touch F w w' := by
  obtain ⟨FW, FD, hA, hF⟩ := h
  refine (fuse_any q _ X FW r k i w hA.wn).mono ?_
  rintro e w' ⟨he, hw, ht⟩
  exact ⟨he, control_end hA hF hw ht⟩
theorem warm_any (q p : Nat) (X : Wnd) (S : Drv) (F : Nat → Prop) (A : Option Addr) (n c : Nat) (l : List (Int × Int)) (w : World) (h : WD w q p X S F) (hr : Reads w w.heap.size 2 A n (planCells l)) (hA : 0 < n → ∀ ad, A = some ad → ¬F ad.block) (hn : n * 16 ≤ 140737488351232) :
    Calls Tryz.prog 56 #[.pointer (some ⟨q, 0, none⟩), .slice A n c] w fun e w' => e = .returned (.tuple #[]) ∧ WD w' q p (X.arm l) S (grow F w w') ∧ Touch F w w' := by
  obtain ⟨FW, FD, hAp, hF⟩ := h
  refine (arm_any q _ X FW A n c l w hAp.wn hr (fun h0 ad e hf => hA h0 ad e (hF _ (.inl hf))) hn).mono ?_
  rintro e w' ⟨he, hw, ht⟩
  exact ⟨he, control_end hAp hF hw ht⟩

/-- A wound and its drive, all of it at h or above. -/
def WDb (w : World) (h q p : Nat) (X : Wnd) (S : Drv) : Prop := WD w q p X S fun k => h ≤ k ∧ k < w.heap.size
theorem WDb.step {w w' : World} {h q p : Nat} {Y : Wnd} {T : Drv} (hh : h ≤ w.heap.size) (hd : WD w' q p Y T (grow (fun k => h ≤ k ∧ k < w.heap.size) w w')) (ht : Touch (fun k => h ≤ k ∧ k < w.heap.size) w w') : WDb w' h q p Y T ∧ Below h w w' :=
  ⟨hd.mono fun k hk => by
    have := ht.size
    rcases hk with hk | hk
    · exact ⟨hk.1, by omega⟩
    · exact ⟨by omega, hk.2⟩, ht.below hh fun k hk => hk.1⟩
theorem WDb.stepF {w w' : World} {h q p : Nat} {Y : Wnd} {T : Drv} {F : Nat → Prop} (hF : ∀ k, F k → h ≤ k ∧ k < w.heap.size) (hh : h ≤ w.heap.size) (hd : WD w' q p Y T (grow F w w')) (ht : Touch F w w') : WDb w' h q p Y T ∧ Below h w w' :=
  ⟨hd.mono fun k hk => by
    have := ht.size
    rcases hk with hk | hk
    · have := hF k hk; exact ⟨this.1, by omega⟩
    · exact ⟨by omega, hk.2⟩, ht.below hh fun k hk => (hF k hk).1⟩
theorem WDb.below {w w' : World} {h q p : Nat} {X : Wnd} {S : Drv} (hd : WDb w h q p X S) (hb : Below w.heap.size w w') : WDb w' h q p X S :=
  (WD.below hd hb).mono fun _ hk => ⟨hk.1, Nat.lt_of_lt_of_le hk.2 hb.size⟩
/-- A drive, all of it at h or above. -/
def Drb (w : World) (h p : Nat) (S : Drv) : Prop := Dr w p S fun k => h ≤ k ∧ k < w.heap.size
theorem Drb.step {w w' : World} {h p : Nat} {T : Drv} (hh : h ≤ w.heap.size) (hd : Dr w' p T (grow (fun k => h ≤ k ∧ k < w.heap.size) w w')) (ht : Touch (fun k => h ≤ k ∧ k < w.heap.size) w w') : Drb w' h p T ∧ Below h w w' :=
  ⟨hd.mono fun k hk => by
    have := ht.size
    rcases hk with hk | hk
    · exact ⟨hk.1, by omega⟩
    · exact ⟨by omega, hk.2⟩, ht.below hh fun k hk => hk.1⟩
theorem Drb.below {w w' : World} {h p : Nat} {S : Drv} (hd : Drb w h p S) (hb : Below w.heap.size w w') : Drb w' h p S :=
  (Dr.below hd hb).mono fun _ hk => ⟨hk.1, Nat.lt_of_lt_of_le hk.2 hb.size⟩

/-- A new drive. -/
theorem newb_any (r : Int) (w : World) (h0 : 0 ≤ r) (h1 : r ≤ 1073741824) :
    Calls Tryz.prog 32 #[.int .i64 r] w fun e w' => ∃ p, e = .returned (.pointer (some ⟨p, 0, none⟩)) ∧ Drb w' w.heap.size p (Drv.new r.toNat) ∧ Below w.heap.size w w' := by
  refine (new_good r w h0 h1).mono ?_
  rintro e w' ⟨rfl, rfl⟩
  have hd := dr_new w r.toNat
  rw [show ((r.toNat : Nat) : Int) = r by omega] at hd
  exact ⟨_, rfl, (dr_lt ⟨_, hd⟩).mono fun k hk => hk, (((Below.refl _ w).alloc (Nat.le_refl _) _).alloc (by simp) _).alloc (by simp; omega) _⟩
/-- A new wound on a drive. -/
theorem wnewb_any (h p : Nat) (S : Drv) (w : World) (hh : h ≤ w.heap.size) (hd : Drb w h p S) :
    Calls Tryz.prog 31 #[.pointer (some ⟨p, 0, none⟩)] w fun e w' => ∃ q, e = .returned (.pointer (some ⟨q, 0, none⟩)) ∧ WDb w' h q p Wnd.new S ∧ Below w.heap.size w w' := by
  refine (wnew_any p w).mono ?_
  rintro e w' ⟨rfl, hw, hb, hs⟩
  refine ⟨_, rfl, ⟨(· = w.heap.size), fun k => h ≤ k ∧ k < w.heap.size, ⟨hw, Dr.below hd hb, fun k hk => by rw [hk, hs]; omega, fun k hk => by have := hk.2; omega, fun k hk hd => by have := hd.2; omega⟩, fun k hk => ?_⟩, hb⟩
  rcases hk with hk | hk
  · rw [hk, hs]; omega
  · rw [hs]; exact ⟨hk.1, by omega⟩
end Go.Proofs.YtdmcjomcbhdcbaaGreat
namespace Go.Proofs.YtdmcjomcbhdcbaaGreat
open Go.RowKit Go.Maps

structure GCells where
  d : Bool
  a : Bool
  pa : Option Addr
  pn : Nat
  pc : Nat
  k : Int
  r : Int
  laid : Bool
  R : Int
  C : Int
  I : Int
def gcells (g : GCells) : Array Value := #[.bool g.d, .bool g.a, .slice g.pa g.pn g.pc, .int .i64 g.k, .int .i64 g.r, .bool g.laid, .int .i64 g.R, .int .i64 g.C, .int .i64 g.I]
def GCells.struck (g : GCells) : Bool := g.laid && g.R == 0

theorem gstruck_any (g : GCells) (w : World) :
    Calls Tryz.prog 80 #[.agg (gcells g)] w fun e w' => e = .returned (.bool g.struck) ∧ Below w.heap.size w w' := by
  unfold gcells GCells.struck
  obtain ⟨d, a, pa, pn, pc, k, r, laid, R, C, I⟩ := g
  cases laid with
  | false =>
    go_enter Tryz.func80, Tryz.ntmps80
    go_wp2
    go_ret
    exact ⟨rfl, (Below.refl _ _).alloc (Nat.le_refl _) _⟩
  | true =>
    go_enter Tryz.func80, Tryz.ntmps80
    go_wp2
    go_ret
    exact ⟨rfl, (Below.refl _ _).alloc (Nat.le_refl _) _⟩

theorem goffline_any (g : GCells) (off : Bool) (w : World) :
    Calls Tryz.prog 59 #[.agg (gcells g), .bool off] w fun e w' => e = .returned (.agg (gcells { g with a := off })) ∧ Below w.heap.size w w' := by
  unfold gcells
  obtain ⟨d, a, pa, pn, pc, k, r, laid, R, C, I⟩ := g
  go_enter Tryz.func59, Tryz.ntmps59
  go_wp2
  refine bodyPost_ret (v := .agg #[.bool d, .bool off, .slice pa pn pc, .int .i64 k, .int .i64 r, .bool laid, .int .i64 R, .int .i64 C, .int .i64 I]) (by simp only [results, Tryz.results59]; go_simp) rfl ⟨rfl, ?_⟩
  exact ((Below.refl _ w).alloc (Nat.le_refl _) _).alloc (by simp) _

theorem gpower_any (g : GCells) (on : Bool) (w : World) :
    Calls Tryz.prog 113 #[.agg (gcells g), .bool on] w fun e w' => e = .returned (.agg (gcells { g with d := !on })) ∧ Below w.heap.size w w' := by
  unfold gcells
  obtain ⟨d, a, pa, pn, pc, k, r, laid, R, C, I⟩ := g
  go_enter Tryz.func113, Tryz.ntmps113
  go_wp2
  refine bodyPost_ret (v := .agg #[.bool (!on), .bool a, .slice pa pn pc, .int .i64 k, .int .i64 r, .bool laid, .int .i64 R, .int .i64 C, .int .i64 I]) (by simp only [results, Tryz.results113]; go_simp) rfl ⟨rfl, ?_⟩
  exact ((Below.refl _ w).alloc (Nat.le_refl _) _).alloc (by simp) _

theorem gfuse_any (g : GCells) (x y z : Int) (w : World) :
    Calls Tryz.prog 61 #[.agg (gcells g), .int .i64 x, .int .i64 y, .int .i64 z] w fun e w' => e = .returned (.agg (gcells { g with laid := decide (0 ≤ x), R := x, C := y, I := z })) ∧ Below w.heap.size w w' := by
  unfold gcells
  obtain ⟨d, a, pa, pn, pc, k, r, laid, R, C, I⟩ := g
  go_enter Tryz.func61, Tryz.ntmps61
  go_wp2
  refine bodyPost_ret (v := .agg #[.bool d, .bool a, .slice pa pn pc, .int .i64 k, .int .i64 r, .bool (decide (0 ≤ x)), .int .i64 x, .int .i64 y, .int .i64 z]) (by simp only [results, Tryz.results61]; go_simp) rfl ⟨rfl, ?_⟩
  exact ((Below.refl _ w).alloc (Nat.le_refl _) _).alloc (by simp) _

def GCells.rest (g : GCells) (off : Bool) : GCells :=
  { g with r := 0, laid := (g.laid && !(g.R == 0)), R := (if g.laid = true ∧ g.R ≠ 0 then g.R - 1 else g.R), d := g.d || off }
theorem grest_any (g : GCells) (off : Bool) (w : World) (hR : g.laid = true → 0 ≤ g.R ∧ g.R ≤ 9223372036854775807) :
    Calls Tryz.prog 112 #[.agg (gcells g), .bool off] w fun e w' => e = .returned (.agg (gcells (g.rest off))) ∧ Below w.heap.size w w' := by
  unfold gcells GCells.rest
  obtain ⟨d, a, pa, pn, pc, k, r, laid, R, C, I⟩ := g
  simp only at hR ⊢
  by_cases h0 : R = 0
  · subst h0
    rw [if_neg (by simp)]
    cases off <;>
    · go_enter Tryz.func112, Tryz.ntmps112
      go_wp2
      refine bodyPost_ret (v := .agg #[.bool _, .bool a, .slice pa pn pc, .int .i64 k, .int .i64 0, .bool false, .int .i64 0, .int .i64 C, .int .i64 I]) (by simp only [results, Tryz.results112]; go_simp; rfl) rfl ⟨?_, ?_⟩
      · simp
      · exact ((Below.refl _ w).alloc (Nat.le_refl _) _).alloc (by simp) _
  · cases laid with
    | false =>
      rw [if_neg (by simp)]
      clear hR
      cases off <;>
      · go_enter Tryz.func112, Tryz.ntmps112
        go_wp2
        refine bodyPost_ret (v := .agg #[.bool _, .bool a, .slice pa pn pc, .int .i64 k, .int .i64 0, .bool false, .int .i64 R, .int .i64 C, .int .i64 I]) (by simp only [results, Tryz.results112]; go_simp; rfl) rfl ⟨?_, ?_⟩
        · simp
        · exact ((Below.refl _ w).alloc (Nat.le_refl _) _).alloc (by simp) _
    | true =>
      obtain ⟨h1, h2⟩ := hR rfl
      clear hR
      have hb : (!(R == 0)) = true := by simp [h0]
      have HB := Lib.hid hb
      have H0 := Lib.hid h0
      have h3 : 1 ≤ R := by omega
      rw [if_pos ⟨rfl, H0.out⟩]
      clear hb h0
      cases off <;>
      · go_enter Tryz.func112, Tryz.ntmps112
        go_wp2
        refine bodyPost_ret (v := .agg #[.bool _, .bool a, .slice pa pn pc, .int .i64 k, .int .i64 0, .bool true, .int .i64 (R - 1), .int .i64 C, .int .i64 I]) (by simp only [results, Tryz.results112]; go_simp; rfl) rfl ⟨?_, ?_⟩
        · simp [H0.out]
        · exact ((Below.refl _ w).alloc (Nat.le_refl _) _).alloc (by simp) _

/-- The gate's number of a call's kind. -/
def gkind (k : Int) : Int := if k = 1 then 1 else if k = 2 then 2 else 3
def gmay (k : Int) : Bool := k == 1 || k == 2

set_option maxRecDepth 100000 in
set_option maxHeartbeats 1000000 in
theorem strike_any (base : Nat) (pa : Option Addr) (pc len : Nat) (l : List (Int × Int)) (num gk : Int) (hgk : gk = 1 ∨ gk = 2 ∨ gk = 3) (w : World) (hlen : len = l.length) (h : w.ownsRow base 181 2 (.slice pa len pc) len (planCells l)) (hl : len ≤ 8796093021952) :
    Calls Tryz.prog 128 #[.slice pa len pc, .int .i64 num, .int .i64 gk] w fun e w' => e = .returned (.int .i64 (Wnd.scan (gmay gk) num l)) ∧ ∃ n, w' = w.drewN n := by
  have HO := Lib.hid h
  have HLEN := Lib.hid hlen
  obtain ⟨may, hmay⟩ : ∃ may, may = gmay gk := ⟨_, rfl⟩
  rw [← hmay]
  obtain ⟨z, hz⟩ : ∃ z, z = Wnd.scan may num l := ⟨_, rfl⟩
  rw [← hz]
  have HZ := Lib.hid hz
  have HMAY := Lib.hid hmay
  clear h hlen hz hmay
  rcases hgk with rfl | rfl | rfl
  all_goals
    go_enter Tryz.func128, Tryz.ntmps128
    go_wp2
    go_loopw [7] (fun s wr => ∃ k : Nat, k ≤ len ∧ s = .int .i64 k ∧ Wnd.scan (may) num (l.drop k) = z ∧ ∃ n, wr = w.drewN n) (fun s _ => len - (intOf s).toNat)
    case atStart => exact ⟨0, Nat.zero_le _, rfl, by rw [HZ.out]; rfl, 0, rfl⟩
    case round =>
      obtain ⟨k, hk, rfl, hsc, m, hm⟩ := hrel
      have HSC := Lib.hid hsc
      have HM := Lib.hid hm
      clear hsc
      by_cases hlt : k < len
      · obtain ⟨f, hfk⟩ : ∃ f, l[k]? = some f := ⟨_, List.getElem?_eq_getElem (by rw [← HLEN.out]; exact hlt)⟩
        obtain ⟨c1, c2⟩ := plan_get _ _ _ hfk
        have hpl := HO.out
        obtain ⟨g, cap, hv, _, hglt⟩ := hpl.form (by omega)
        have hpa : pa = some ⟨g, 0, none⟩ := by injection hv
        subst hpa
        have x1 : wr.cell? ⟨g, k * 2, none⟩ = some (.int .i64 f.1) := by
          have := hpl.cells (g := g) rfl (k * 2) _ c1
          rw [hm]; simpa [add_plain] using this
        have x2 : wr.cell? ⟨g, k * 2 + 1, none⟩ = some (.int .i64 f.2) := by
          have := hpl.cells (g := g) rfl (k * 2 + 1) _ c2
          rw [hm]; simpa [add_plain] using this
        have hdr : l.drop k = f :: l.drop (k + 1) := by
          rw [List.drop_eq_getElem_cons (by rw [← HLEN.out]; exact hlt)]
          congr 1
          rw [List.getElem?_eq_getElem (by rw [← HLEN.out]; exact hlt)] at hfk
          injection hfk
        clear c1 c2 hpl hv hfk hm
        by_cases e1 : f.1 = num
        · have b1 : (f.1 == num) = true := by simp [e1]
          have hz1 : z = if f.2 = 1 then 120 else if f.2 = 2 ∧ may = true then 111 else 0 := by
            have := HSC.out; rw [hdr] at this; unfold Wnd.scan at this; rw [if_pos e1] at this; exact this.symm
          clear hdr
          have HE1 := Lib.hid e1; clear e1
          by_cases e2 : f.2 = 1
          · have b2 : (f.2 == 1) = true := by simp [e2]
            rw [if_pos e2] at hz1
            have HZ1 := Lib.hid hz1; clear hz1 e2
            go_wp2
            go_ret
            exact ⟨by rw [HZ1.out]; exact rfl, m, HM.out⟩
          · have b2 : (f.2 == 1) = false := by simp [e2]
            rw [if_neg e2] at hz1
            clear e2
            by_cases e3 : f.2 = 2
            · have b3 : (f.2 == 2) = true := by simp [e3]
              have HE3 := Lib.hid e3
              have HZ1 := Lib.hid hz1; clear hz1 e3
              go_wp2
              go_ret
              exact ⟨by rw [HZ1.out]; first | (rw [if_pos ⟨HE3.out, HMAY.out⟩]; exact rfl) | (rw [if_neg (by rintro ⟨_, h⟩; rw [HMAY.out] at h; exact absurd h (by decide))]; exact rfl), m, HM.out⟩
            · have b3 : (f.2 == 2) = false := by simp [e3]
              rw [if_neg (by rintro ⟨h, _⟩; exact e3 h)] at hz1
              have HZ1 := Lib.hid hz1; clear hz1 e3
              go_wp2
              go_ret
              exact ⟨by rw [HZ1.out]; exact rfl, m, HM.out⟩
        · have b1 : (f.1 == num) = false := by simp [e1]
          have hz1 : Wnd.scan (may) num (l.drop (k + 1)) = z := by
            have := HSC.out; rw [hdr] at this; unfold Wnd.scan at this; rw [if_neg e1] at this; exact this
          have HZ1 := Lib.hid hz1
          clear hdr hz1 e1
          go_wp2
          go_roundw
          case rel => exact ⟨k + 1, by omega, by go_num, HZ1.out, m, HM.out⟩
          case measure => simp [intOf]; omega
      · have hkl : k = len := by omega
        have hz1 : z = 0 := by have := HSC.out; rw [hkl, HLEN.out, List.drop_length] at this; exact this.symm
        have HZ1 := Lib.hid hz1
        clear hz1 hm
        subst hkl
        go_wp2
        go_ret
        exact ⟨by rw [HZ1.out]; exact rfl, m, HM.out⟩

def GCells.hits (g : GCells) : Bool := g.laid && g.R == 0 && g.C == g.r
def GCells.count (g : GCells) : GCells := { g with k := g.k + 1, r := g.r + 1 }
def ansV (goes : Bool) (bytes err : Int) : Value := .agg #[.bool goes, .int .i64 bytes, .int .i64 err]

/-- Nothing below h has turned, behind allocs, stores above, draws. -/
theorem Below.tail {B : Nat} {w W : World} (h : Below B w W) (hB : B ≤ w.heap.size) : (∀ o, Below B w (W.alloc o)) ∧ Below B w W.drew ∧ ∀ p u, B ≤ p.block → Below B w (W.setCell p u) :=
  ⟨fun o => h.alloc (Nat.le_trans hB h.size) o, below_drewN h 1, fun p u hp => h.setCell hp u⟩

theorem three {w w1 : World} {a b c : Array Value} {t s u : TypeId} (h : Below (((w.alloc (.cells a t)).alloc (.cells b s)).alloc (.cells c u)).heap.size (((w.alloc (.cells a t)).alloc (.cells b s)).alloc (.cells c u)) w1) :
    Blk w1 w.heap.size t a ∧ Blk w1 (w.heap.size + 1) s b ∧ Blk w1 (w.heap.size + 1 + 1) u c ∧ w.heap.size + 1 + 1 < w1.heap.size ∧ Below w.heap.size w w1 := by
  have hs := h.size
  simp only [alloc_size] at hs
  refine ⟨Blk.below (((Blk.new _ _ _).alloc _).alloc _) h (by simp; omega), Blk.below ((blk_last _ _ _ _ (by simp)).alloc _) h (by simp), Blk.below (blk_last _ _ _ _ (by simp)) h (by simp), by omega, ?_⟩
  exact ((((Below.refl _ w).alloc (Nat.le_refl _) _).alloc (by simp) _).alloc (by simp; omega) _).trans (h.mono (by simp; omega))

set_option maxHeartbeats 1000000 in
theorem ask_down (g : GCells) (gk size : Int) (w : World) (hd : g.d = true) :
    Calls Tryz.prog 121 #[.agg (gcells g), .int .i64 gk, .int .i64 size] w fun e w' => e = .returned (.tuple #[ansV false 0 122, .agg (gcells g)]) ∧ Below w.heap.size w w' := by
  unfold gcells ansV
  obtain ⟨d, a, pa, pn, pc, k, r, laid, R, C, I⟩ := g
  simp only at hd
  subst hd
  go_enter Tryz.func121, Tryz.ntmps121
  go_wp2
  go_region
  all_goals
    go_wp2
    refine bodyPost_ret (v := .tuple #[.agg #[.bool false, .int .i64 0, .int .i64 122], .agg #[.bool true, .bool a, .slice pa pn pc, .int .i64 k, .int .i64 r, .bool laid, .int .i64 R, .int .i64 C, .int .i64 I]]) (by simp only [results, Tryz.results121]; go_simp) rfl ⟨rfl, ?_⟩
    first
      | exact (((Below.refl _ w).alloc (Nat.le_refl _) _).alloc (by simp) _).alloc (by simp; omega) _
      | exact below_drewN ((((Below.refl _ w).alloc (Nat.le_refl _) _).alloc (by simp) _).alloc (by simp; omega) _) 1
set_option maxHeartbeats 1000000 in
theorem ask_away (g : GCells) (gk size : Int) (w : World) (hd : g.d = false) (ha : g.a = true) :
    Calls Tryz.prog 121 #[.agg (gcells g), .int .i64 gk, .int .i64 size] w fun e w' => e = .returned (.tuple #[ansV false 0 121, .agg (gcells g)]) ∧ Below w.heap.size w w' := by
  unfold gcells ansV
  obtain ⟨d, a, pa, pn, pc, k, r, laid, R, C, I⟩ := g
  simp only at hd ha
  subst hd ha
  go_enter Tryz.func121, Tryz.ntmps121
  go_wp2
  go_region
  all_goals
    go_wp2
    refine bodyPost_ret (v := .tuple #[.agg #[.bool false, .int .i64 0, .int .i64 121], .agg #[.bool false, .bool true, .slice pa pn pc, .int .i64 k, .int .i64 r, .bool laid, .int .i64 R, .int .i64 C, .int .i64 I]]) (by simp only [results, Tryz.results121]; go_simp) rfl ⟨rfl, ?_⟩
    first
      | exact (((Below.refl _ w).alloc (Nat.le_refl _) _).alloc (by simp) _).alloc (by simp; omega) _
      | exact below_drewN ((((Below.refl _ w).alloc (Nat.le_refl _) _).alloc (by simp) _).alloc (by simp; omega) _) 1
set_option maxRecDepth 100000 in
set_option maxHeartbeats 2000000 in
theorem ask_goes (g : GCells) (gk size : Int) (l : List (Int × Int)) (base : Nat) (w : World) (hd : g.d = false) (ha : g.a = false) (hh : g.hits = false) (hgk : gk = 1 ∨ gk = 2 ∨ gk = 3) (hpn : g.pn = l.length) (hpl : w.ownsRow base 181 2 (.slice g.pa g.pn g.pc) g.pn (planCells l)) (hl : g.pn ≤ 8796093021952) (hk : 0 ≤ g.k ∧ g.k ≤ 1152921504606846976) (hr : 0 ≤ g.r ∧ g.r ≤ 1152921504606846976) :
    Calls Tryz.prog 121 #[.agg (gcells g), .int .i64 gk, .int .i64 size] w fun e w' => e = .returned (.tuple #[ansV (Wnd.scan (gmay gk) g.k l == 0) 0 (Wnd.scan (gmay gk) g.k l), .agg (gcells g.count)]) ∧ Below w.heap.size w w' := by
  unfold gcells ansV GCells.count
  obtain ⟨d, a, pa, pn, pc, k, r, laid, R, C, I⟩ := g
  simp only at hd ha hpn hpl hl hk hr ⊢
  obtain ⟨hk0, hk1⟩ := hk
  obtain ⟨hr0, hr1⟩ := hr
  subst hd ha
  obtain ⟨z, hz⟩ : ∃ z, z = Wnd.scan (gmay gk) k l := ⟨_, rfl⟩
  rw [← hz]
  have HZ := Lib.hid hz
  have HPL := Lib.hid hpl
  have HPN := Lib.hid hpn
  have HGK := Lib.hid hgk
  clear hz hpl hpn hgk
  by_cases hs : (laid && R == 0) = true
  · have hc : (C == r) = false := by
      unfold GCells.hits at hh
      simp only at hh
      rw [hs] at hh
      simpa using hh
    simp only [Bool.and_eq_true, beq_iff_eq] at hs
    obtain ⟨rfl, rfl⟩ := hs
    clear hh
    have HGC : Hid (gcells ⟨false, false, pa, pn, pc, k + 1, r + 1, true, 0, C, I⟩ = #[.bool false, .bool false, .slice pa pn pc, .int .i64 (k + 1), .int .i64 (r + 1), .bool true, .int .i64 0, .int .i64 C, .int .i64 I]) := Lib.hid rfl
    go_enter Tryz.func121, Tryz.ntmps121
    go_wp2_with (first
      | (go_at_call 80; rw [← HGC.out]; refine (gstruck_any ⟨false, false, pa, pn, pc, k + 1, r + 1, true, 0, C, I⟩ _).mono ?_; rintro e w1 ⟨rfl, hb1⟩; rw [show GCells.struck ⟨false, false, pa, pn, pc, k + 1, r + 1, true, 0, C, I⟩ = true from rfl]; obtain ⟨k1, k2, k3, hl1, hbel⟩ := three hb1; have hl0 : w.heap.size < w1.heap.size := (by omega); have hl01 : w.heap.size + 1 < w1.heap.size := (by omega); have g0 : w1.cell? ⟨w.heap.size, 0, none⟩ = some (.bool false) := k1.cell 0; have g1 : w1.cell? ⟨w.heap.size, 1, none⟩ = some (.bool false) := k1.cell 1; have g2 : w1.cell? ⟨w.heap.size, 2, none⟩ = some (.slice pa pn pc) := k1.cell 2; have g3 : w1.cell? ⟨w.heap.size, 3, none⟩ = some (.int .i64 (k + 1)) := k1.cell 3; have g4 : w1.cell? ⟨w.heap.size, 4, none⟩ = some (.int .i64 (r + 1)) := k1.cell 4; have g5 : w1.cell? ⟨w.heap.size, 5, none⟩ = some (.bool true) := k1.cell 5; have g6 : w1.cell? ⟨w.heap.size, 6, none⟩ = some (.int .i64 0) := k1.cell 6; have g7 : w1.cell? ⟨w.heap.size, 7, none⟩ = some (.int .i64 C) := k1.cell 7; have g8 : w1.cell? ⟨w.heap.size, 8, none⟩ = some (.int .i64 I) := k1.cell 8; have gf : ∀ i, w1.frozen? ⟨w.heap.size, i, none⟩ = false := k1.frozen; have a0 : w1.cell? ⟨w.heap.size + 1, 0, none⟩ = some (.bool false) := k2.cell 0; have a1 : w1.cell? ⟨w.heap.size + 1, 1, none⟩ = some (.int .i64 0) := k2.cell 1; have a2 : w1.cell? ⟨w.heap.size + 1, 2, none⟩ = some (.int .i64 0) := k2.cell 2; have af : ∀ i, w1.frozen? ⟨w.heap.size + 1, i, none⟩ = false := k2.frozen; have r0 : w1.cell? ⟨w.heap.size + 1 + 1, 0, none⟩ = some (.bool false) := k3.cell 0; have r1 : w1.cell? ⟨w.heap.size + 1 + 1, 1, none⟩ = some (.bool false) := k3.cell 1; have r2 : w1.cell? ⟨w.heap.size + 1 + 1, 2, none⟩ = some (.slice none 0 0) := k3.cell 2; have r3 : w1.cell? ⟨w.heap.size + 1 + 1, 3, none⟩ = some (.int .i64 0) := k3.cell 3; have r4 : w1.cell? ⟨w.heap.size + 1 + 1, 4, none⟩ = some (.int .i64 0) := k3.cell 4; have r5 : w1.cell? ⟨w.heap.size + 1 + 1, 5, none⟩ = some (.bool false) := k3.cell 5; have r6 : w1.cell? ⟨w.heap.size + 1 + 1, 6, none⟩ = some (.int .i64 0) := k3.cell 6; have r7 : w1.cell? ⟨w.heap.size + 1 + 1, 7, none⟩ = some (.int .i64 0) := k3.cell 7; have r8 : w1.cell? ⟨w.heap.size + 1 + 1, 8, none⟩ = some (.int .i64 0) := k3.cell 8; have rf : ∀ i, w1.frozen? ⟨w.heap.size + 1 + 1, i, none⟩ = false := k3.frozen; have HBEL := Lib.hid hbel; clear k1 k2 k3 hbel hb1)
      | (go_at_call 128; refine (strike_any 0 pa pc pn l k gk HGK.out w1 HPN.out (ownsRow_base_a (ownsRow_below HPL.out HBEL.out) (Nat.zero_le _)) hl).mono ?_; rintro e w2 ⟨rfl, n, rfl⟩; rw [← HZ.out]))
    go_region
    all_goals
      go_wp2
      refine bodyPost_ret (v := .tuple #[.agg #[.bool (z == 0), .int .i64 0, .int .i64 z], .agg #[.bool false, .bool false, .slice pa pn pc, .int .i64 (k + 1), .int .i64 (r + 1), .bool true, .int .i64 0, .int .i64 C, .int .i64 I]]) (by simp only [results, Tryz.results121]; go_simp) rfl ⟨rfl, ?_⟩
      · repeat (first | with_reducible exact HBEL.out | with_reducible refine Below.setCell ?_ (by simp; try omega) _ | with_reducible refine below_drewN ?_ _ | with_reducible refine below_drew1 ?_ | with_reducible refine Below.alloc ?_ (by simp; try omega) _)
  · have HS : Hid (GCells.struck ⟨false, false, pa, pn, pc, k + 1, r + 1, laid, R, C, I⟩ = false) := Lib.hid (by unfold GCells.struck; simpa using hs)
    clear hh hs
    have HGC : Hid (gcells ⟨false, false, pa, pn, pc, k + 1, r + 1, laid, R, C, I⟩ = #[.bool false, .bool false, .slice pa pn pc, .int .i64 (k + 1), .int .i64 (r + 1), .bool laid, .int .i64 R, .int .i64 C, .int .i64 I]) := Lib.hid rfl
    go_enter Tryz.func121, Tryz.ntmps121
    go_wp2_with (first
      | (go_at_call 80; rw [← HGC.out]; refine (gstruck_any ⟨false, false, pa, pn, pc, k + 1, r + 1, laid, R, C, I⟩ _).mono ?_; rintro e w1 ⟨rfl, hb1⟩; rw [show GCells.struck ⟨false, false, pa, pn, pc, k + 1, r + 1, laid, R, C, I⟩ = false from HS.out]; obtain ⟨k1, k2, k3, hl1, hbel⟩ := three hb1; have hl0 : w.heap.size < w1.heap.size := (by omega); have hl01 : w.heap.size + 1 < w1.heap.size := (by omega); have g0 : w1.cell? ⟨w.heap.size, 0, none⟩ = some (.bool false) := k1.cell 0; have g1 : w1.cell? ⟨w.heap.size, 1, none⟩ = some (.bool false) := k1.cell 1; have g2 : w1.cell? ⟨w.heap.size, 2, none⟩ = some (.slice pa pn pc) := k1.cell 2; have g3 : w1.cell? ⟨w.heap.size, 3, none⟩ = some (.int .i64 (k + 1)) := k1.cell 3; have g4 : w1.cell? ⟨w.heap.size, 4, none⟩ = some (.int .i64 (r + 1)) := k1.cell 4; have g5 : w1.cell? ⟨w.heap.size, 5, none⟩ = some (.bool laid) := k1.cell 5; have g6 : w1.cell? ⟨w.heap.size, 6, none⟩ = some (.int .i64 R) := k1.cell 6; have g7 : w1.cell? ⟨w.heap.size, 7, none⟩ = some (.int .i64 C) := k1.cell 7; have g8 : w1.cell? ⟨w.heap.size, 8, none⟩ = some (.int .i64 I) := k1.cell 8; have gf : ∀ i, w1.frozen? ⟨w.heap.size, i, none⟩ = false := k1.frozen; have a0 : w1.cell? ⟨w.heap.size + 1, 0, none⟩ = some (.bool false) := k2.cell 0; have a1 : w1.cell? ⟨w.heap.size + 1, 1, none⟩ = some (.int .i64 0) := k2.cell 1; have a2 : w1.cell? ⟨w.heap.size + 1, 2, none⟩ = some (.int .i64 0) := k2.cell 2; have af : ∀ i, w1.frozen? ⟨w.heap.size + 1, i, none⟩ = false := k2.frozen; have r0 : w1.cell? ⟨w.heap.size + 1 + 1, 0, none⟩ = some (.bool false) := k3.cell 0; have r1 : w1.cell? ⟨w.heap.size + 1 + 1, 1, none⟩ = some (.bool false) := k3.cell 1; have r2 : w1.cell? ⟨w.heap.size + 1 + 1, 2, none⟩ = some (.slice none 0 0) := k3.cell 2; have r3 : w1.cell? ⟨w.heap.size + 1 + 1, 3, none⟩ = some (.int .i64 0) := k3.cell 3; have r4 : w1.cell? ⟨w.heap.size + 1 + 1, 4, none⟩ = some (.int .i64 0) := k3.cell 4; have r5 : w1.cell? ⟨w.heap.size + 1 + 1, 5, none⟩ = some (.bool false) := k3.cell 5; have r6 : w1.cell? ⟨w.heap.size + 1 + 1, 6, none⟩ = some (.int .i64 0) := k3.cell 6; have r7 : w1.cell? ⟨w.heap.size + 1 + 1, 7, none⟩ = some (.int .i64 0) := k3.cell 7; have r8 : w1.cell? ⟨w.heap.size + 1 + 1, 8, none⟩ = some (.int .i64 0) := k3.cell 8; have rf : ∀ i, w1.frozen? ⟨w.heap.size + 1 + 1, i, none⟩ = false := k3.frozen; have HBEL := Lib.hid hbel; clear k1 k2 k3 hbel hb1)
      | (go_at_call 128; refine (strike_any 0 pa pc pn l k gk HGK.out w1 HPN.out (ownsRow_base_a (ownsRow_below HPL.out HBEL.out) (Nat.zero_le _)) hl).mono ?_; rintro e w2 ⟨rfl, n, rfl⟩; rw [← HZ.out]))
    go_region
    all_goals
      go_wp2
      refine bodyPost_ret (v := .tuple #[.agg #[.bool (z == 0), .int .i64 0, .int .i64 z], .agg #[.bool false, .bool false, .slice pa pn pc, .int .i64 (k + 1), .int .i64 (r + 1), .bool laid, .int .i64 R, .int .i64 C, .int .i64 I]]) (by simp only [results, Tryz.results121]; go_simp) rfl ⟨rfl, ?_⟩
      · repeat (first | with_reducible exact HBEL.out | with_reducible refine Below.setCell ?_ (by simp; try omega) _ | with_reducible refine below_drewN ?_ _ | with_reducible refine below_drew1 ?_ | with_reducible refine Below.alloc ?_ (by simp; try omega) _)

set_option maxRecDepth 100000 in
set_option maxHeartbeats 2000000 in
theorem ask_hits (g : GCells) (gk size : Int) (w : World) (hd : g.d = false) (ha : g.a = false) (hh : g.hits = true) (hgk : gk = 1 ∨ gk = 2 ∨ gk = 3) (hs : 0 ≤ size) (hk : 0 ≤ g.k ∧ g.k ≤ 1152921504606846976) (hr : 0 ≤ g.r ∧ g.r ≤ 1152921504606846976) :
    Calls Tryz.prog 121 #[.agg (gcells g), .int .i64 gk, .int .i64 size] w fun e w' => e = .returned (.tuple #[ansV false (if gk = 2 then max 0 (min g.I size) else 0) 122, .agg (gcells { g.count with d := true })]) ∧ Below w.heap.size w w' := by
  unfold gcells ansV GCells.count
  unfold GCells.hits at hh
  obtain ⟨d, a, pa, pn, pc, k, r, laid, R, C, I⟩ := g
  simp only [Bool.and_eq_true, beq_iff_eq] at hd ha hh hk hr ⊢
  obtain ⟨hk0, hk1⟩ := hk
  obtain ⟨hr0, hr1⟩ := hr
  obtain ⟨⟨rfl, rfl⟩, rfl⟩ := hh
  subst hd ha
  have HGC : Hid (gcells ⟨false, false, pa, pn, pc, k + 1, C + 1, true, 0, C, I⟩ = #[.bool false, .bool false, .slice pa pn pc, .int .i64 (k + 1), .int .i64 (C + 1), .bool true, .int .i64 0, .int .i64 C, .int .i64 I]) := Lib.hid rfl
  rcases hgk with rfl | rfl | rfl
  all_goals
    go_enter Tryz.func121, Tryz.ntmps121
    go_wp2_with (first
      | (go_at_call 80; rw [← HGC.out]; refine (gstruck_any ⟨false, false, pa, pn, pc, k + 1, C + 1, true, 0, C, I⟩ _).mono ?_; rintro e w1 ⟨rfl, hb1⟩; rw [show GCells.struck ⟨false, false, pa, pn, pc, k + 1, C + 1, true, 0, C, I⟩ = true from rfl]; obtain ⟨k1, k2, k3, hl1, hbel⟩ := three hb1; have hl0 : w.heap.size < w1.heap.size := (by omega); have hl01 : w.heap.size + 1 < w1.heap.size := (by omega); have g0 : w1.cell? ⟨w.heap.size, 0, none⟩ = some (.bool false) := k1.cell 0; have g1 : w1.cell? ⟨w.heap.size, 1, none⟩ = some (.bool false) := k1.cell 1; have g2 : w1.cell? ⟨w.heap.size, 2, none⟩ = some (.slice pa pn pc) := k1.cell 2; have g3 : w1.cell? ⟨w.heap.size, 3, none⟩ = some (.int .i64 (k + 1)) := k1.cell 3; have g4 : w1.cell? ⟨w.heap.size, 4, none⟩ = some (.int .i64 (C + 1)) := k1.cell 4; have g5 : w1.cell? ⟨w.heap.size, 5, none⟩ = some (.bool true) := k1.cell 5; have g6 : w1.cell? ⟨w.heap.size, 6, none⟩ = some (.int .i64 0) := k1.cell 6; have g7 : w1.cell? ⟨w.heap.size, 7, none⟩ = some (.int .i64 C) := k1.cell 7; have g8 : w1.cell? ⟨w.heap.size, 8, none⟩ = some (.int .i64 I) := k1.cell 8; have gf : ∀ i, w1.frozen? ⟨w.heap.size, i, none⟩ = false := k1.frozen; have a0 : w1.cell? ⟨w.heap.size + 1, 0, none⟩ = some (.bool false) := k2.cell 0; have a1 : w1.cell? ⟨w.heap.size + 1, 1, none⟩ = some (.int .i64 0) := k2.cell 1; have a2 : w1.cell? ⟨w.heap.size + 1, 2, none⟩ = some (.int .i64 0) := k2.cell 2; have af : ∀ i, w1.frozen? ⟨w.heap.size + 1, i, none⟩ = false := k2.frozen; have r0 : w1.cell? ⟨w.heap.size + 1 + 1, 0, none⟩ = some (.bool false) := k3.cell 0; have r1 : w1.cell? ⟨w.heap.size + 1 + 1, 1, none⟩ = some (.bool false) := k3.cell 1; have r2 : w1.cell? ⟨w.heap.size + 1 + 1, 2, none⟩ = some (.slice none 0 0) := k3.cell 2; have r3 : w1.cell? ⟨w.heap.size + 1 + 1, 3, none⟩ = some (.int .i64 0) := k3.cell 3; have r4 : w1.cell? ⟨w.heap.size + 1 + 1, 4, none⟩ = some (.int .i64 0) := k3.cell 4; have r5 : w1.cell? ⟨w.heap.size + 1 + 1, 5, none⟩ = some (.bool false) := k3.cell 5; have r6 : w1.cell? ⟨w.heap.size + 1 + 1, 6, none⟩ = some (.int .i64 0) := k3.cell 6; have r7 : w1.cell? ⟨w.heap.size + 1 + 1, 7, none⟩ = some (.int .i64 0) := k3.cell 7; have r8 : w1.cell? ⟨w.heap.size + 1 + 1, 8, none⟩ = some (.int .i64 0) := k3.cell 8; have rf : ∀ i, w1.frozen? ⟨w.heap.size + 1 + 1, i, none⟩ = false := k3.frozen; have HBEL := Lib.hid hbel; clear k1 k2 k3 hbel hb1))
    go_region
    all_goals
      go_wp2
      refine bodyPost_ret (v := .tuple #[.agg #[.bool false, .int .i64 _, .int .i64 122], .agg #[.bool true, .bool false, .slice pa pn pc, .int .i64 (k + 1), .int .i64 (C + 1), .bool true, .int .i64 0, .int .i64 C, .int .i64 I]]) (by simp only [results, Tryz.results121]; go_simp; rfl) rfl ⟨?_, ?_⟩
      · first | rfl | simp
      · repeat (first | with_reducible exact HBEL.out | with_reducible refine Below.setCell ?_ (by simp; try omega) _ | with_reducible refine below_drewN ?_ _ | with_reducible refine below_drew1 ?_ | with_reducible refine Below.alloc ?_ (by simp; try omega) _)

/-- A gate that says of a wound's calls what the wound itself does. -/
structure GateOf (X : Wnd) (g : GCells) : Prop where
  d : g.d = X.down
  a : g.a = X.away
  pn : g.pn = X.plan.length
  k : g.k = X.calls
  r : g.r = X.round
  some_ : ∀ f, X.fuse = some f → g.laid = true ∧ g.R = f.round ∧ g.C = f.call ∧ g.I = f.inside
  none_ : X.fuse = none → g.laid = false
theorem GateOf.new : GateOf Wnd.new ⟨false, false, none, 0, 0, 0, 0, false, 0, 0, 0⟩ := ⟨rfl, rfl, rfl, rfl, rfl, (fun f h => by cases h), fun _ => rfl⟩
theorem GateOf.struck {X : Wnd} {g : GCells} (h : GateOf X g) : g.struck = X.lit := by
  unfold GCells.struck Wnd.lit
  cases hf : X.fuse with
  | none => rw [h.none_ hf]; rfl
  | some f => obtain ⟨h1, h2, _⟩ := h.some_ f hf; rw [h1, h2]; rfl
theorem GateOf.hits {X : Wnd} {g : GCells} (h : GateOf X g) : g.hits = X.hits := by
  unfold GCells.hits Wnd.hits
  cases hf : X.fuse with
  | none => rw [h.none_ hf]; rfl
  | some f => obtain ⟨h1, h2, h3, _⟩ := h.some_ f hf; rw [h1, h2, h3, h.r]; simp
theorem GateOf.inside {X : Wnd} {g : GCells} (h : GateOf X g) (hh : X.hits = true) : X.inside = max 0 g.I := by
  unfold Wnd.hits at hh
  unfold Wnd.inside
  cases hf : X.fuse with
  | none => rw [hf] at hh; cases hh
  | some f => obtain ⟨_, _, _, h4⟩ := h.some_ f hf; rw [h4]
theorem GateOf.offline {X : Wnd} {g : GCells} (h : GateOf X g) (off : Bool) : GateOf { X with away := off } { g with a := off } := ⟨h.d, rfl, h.pn, h.k, h.r, h.some_, h.none_⟩
theorem GateOf.power {X : Wnd} {g : GCells} (h : GateOf X g) (on : Bool) : GateOf { X with down := !on } { g with d := !on } := ⟨rfl, h.a, h.pn, h.k, h.r, h.some_, h.none_⟩
theorem GateOf.count {X : Wnd} {g : GCells} (h : GateOf X g) : GateOf X.count g.count := ⟨h.d, h.a, h.pn, by show g.k + 1 = _; rw [h.k]; rfl, by show g.r + 1 = _; rw [h.r]; rfl, h.some_, h.none_⟩
theorem GateOf.cut {X : Wnd} {g : GCells} (h : GateOf X g) : GateOf { X.count with down := true } { g.count with d := true } := ⟨rfl, h.a, h.pn, h.count.k, h.count.r, h.some_, h.none_⟩
theorem GateOf.fuse {X : Wnd} {g : GCells} (h : GateOf X g) (x y z : Int) : GateOf (X.setFuse x y z) { g with laid := decide (0 ≤ x), R := x, C := y, I := z } where
  d := h.d
  a := h.a
  pn := h.pn
  k := h.k
  r := h.r
  some_ f hf := by
    unfold Wnd.setFuse at hf
    simp only at hf
    split at hf
    · rename_i h0
      injection hf with hf
      subst hf
      exact ⟨by simpa using h0, rfl, rfl, rfl⟩
    · cases hf
  none_ hf := by
    unfold Wnd.setFuse at hf
    simp only at hf
    split at hf
    · cases hf
    · rename_i h0
      simpa using h0
theorem GateOf.rest {X : Wnd} {g : GCells} (h : GateOf X g) (off : Bool) : GateOf (X.rest off) (g.rest off) where
  d := by unfold GCells.rest Wnd.rest; simp only; rw [h.d]
  a := h.a
  pn := h.pn
  k := h.k
  r := rfl
  some_ f hf := by
    unfold Wnd.rest at hf
    simp only at hf
    split at hf
    · rename_i f0 hf0
      obtain ⟨h1, h2, h3, h4⟩ := h.some_ f0 hf0
      split at hf
      · cases hf
      · rename_i hne
        injection hf with hf
        subst hf
        unfold GCells.rest
        simp only
        rw [h1, h2]
        refine ⟨by simp [hne], by rw [if_pos ⟨rfl, hne⟩], h3, h4⟩
    · cases hf
  none_ hf := by
    unfold Wnd.rest at hf
    simp only at hf
    unfold GCells.rest
    simp only
    split at hf
    · rename_i f0 hf0
      obtain ⟨h1, h2, h3, h4⟩ := h.some_ f0 hf0
      split at hf
      · rename_i h0
        rw [h2, h0]; simp
      · cases hf
    · rename_i hf0
      rw [h.none_ hf0]; rfl
theorem GateOf.arm {X : Wnd} {g : GCells} (h : GateOf X g) (plan : List (Int × Int)) (pa : Option Addr) (pc : Nat) : GateOf (X.arm plan) { g with pa := pa, pn := plan.length, pc := pc, k := 0 } := ⟨h.d, h.a, rfl, rfl, h.r, h.some_, h.none_⟩
theorem GateOf.round {X : Wnd} {g : GCells} (h : GateOf X g) (hX : X.Ok) : g.laid = true → 0 ≤ g.R ∧ g.R ≤ 9223372036854775807 := fun hl => by
  cases hf : X.fuse with
  | none => rw [h.none_ hf] at hl; cases hl
  | some f => obtain ⟨_, h2, _, _⟩ := h.some_ f hf; rw [h2]; exact hX.fuse f hf
end Go.Proofs.YtdmcjomcbhdcbaaGreat
