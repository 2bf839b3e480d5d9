/- Worlds of drives: a copy of files.; What is done with a wound: Arm, Fuse; the builtin copy over elements of several cells.; What is done with a wound on its drive; a wound and its drive above a place of the memory. -/
import Derived.Test.YtdmcjomcbhdcbaaGreatM16
import Derived.Test.YtdmcjomcbhdcbaaGreatM12
import Derived.Test.YtdmcjomcbhdcbaaGreatM8
import Derived.Laws.CopyOwn
import Derived.Laws.MakeOwn
namespace Go.Proofs.YtdmcjomcbhdcbaaGreat
open Go.RowKit Go.Maps

theorem FilesAt.filesIn {w : World} {base : Nat} {v : Value} {fs : List File} (h : FilesAt w base v fs) : ∃ A c vals, v = .slice A fs.length c ∧ FilesIn w A fs vals ∧ ∀ ad, A = some ad → ad.spot = none := by
  obtain ⟨vals, hl, hrow, hdat⟩ := h
  obtain ⟨A, c, hv, _⟩ := own_shape hrow
  subst hv
  refine ⟨A, c, vals, rfl, ⟨hl, Reads.of_own hrow, fun k f u hf hu => ?_⟩, fun ad had => ?_⟩
  · have hr := hdat k f u hf hu
    obtain ⟨a, c', e, _⟩ := own_shape hr
    subst e
    exact ⟨a, c', rfl, Reads.of_own hr⟩
  · rcases hrow.2 with ⟨e, _⟩ | ⟨g, cap, cur, e, _⟩
    · injection e with e _ _; rw [had] at e; cases e
    · injection e with e _ _; rw [had] at e; injection e with e; rw [e]

theorem row_drew {w : World} {base size n : Nat} {e : TypeId} {v : Value} {xs : List Value} (h : w.ownsRow base e size v n xs) : w.drew.ownsRow base e size v n xs := h
theorem own_or_none (v : Value) : v.ownBlock = none ∨ v.ownBlock ≠ (Value.slice none 0 0).ownBlock := by
  cases h : v.ownBlock with
  | none => exact .inl rfl
  | some k => exact .inr (by simp [Value.ownBlock])
set_option maxRecDepth 100000 in
set_option maxHeartbeats 8000000 in
theorem pfiles_any (fs : List File) (vals : List Value) (A : Option Addr) (c : Nat) (w : World) (hin : FilesIn w A fs vals) (hsp : ∀ ad, A = some ad → 0 < fs.length → ad.spot = none) (hfs : fs.length ≤ 1099511627776) (htot : Drv.total fs ≤ 140737488351232) :
    Calls Tryz.prog 37 #[.slice A fs.length c] w fun e w' => ∃ v, e = .returned v ∧ FilesAt w' w.heap.size v fs ∧ Below w.heap.size w w' := by
  obtain ⟨i5, hi5, hx0, hx1, hx2⟩ := info_parts byteInfo
  obtain ⟨iF, hiF, hz0, hz1, hz2⟩ := info_parts fileInfo
  have HIN := Lib.hid hin
  have HSP := Lib.hid hsp
  have HTOG := Lib.hid (fun (k : Nat) (f : File) (h : fs[k]? = some f) => Nat.le_trans (Drv.total_get fs h) htot)
  obtain ⟨m, hm⟩ : ∃ m, m = fs.length := ⟨_, rfl⟩
  have HM := Lib.hid hm
  rw [← hm] at hfs ⊢
  clear hin hsp htot hm
  go_enter Tryz.func37, Tryz.ntmps37
  go_wp2
  go_loopw [3, 4] (fun s i wr => ∃ k : Nat, k ≤ m ∧ i = .int .i64 k ∧ FilesAt wr w.heap.size s (fs.take k) ∧ Below w.heap.size w wr) (fun _ i _ => m - (intOf i).toNat)
  case atStart => exact ⟨0, Nat.zero_le _, rfl, FilesAt.nil _ _, Below.refl _ _⟩
  case round =>
    obtain ⟨k, hk, rfl, ⟨vs, hvl, hown, hdat⟩, hbel⟩ := hrel
    have hszz : w.heap.size ≤ wr.heap.size := hbel.size
    have hik : (fs.take k).length = k := by rw [List.length_take, ← HM.out]; omega
    rw [hik] at hown hvl
    obtain ⟨a3, c3, rfl, _⟩ := own_shape hown
    have HB := Lib.hid hbel
    by_cases hlt : k < m
    · obtain ⟨f, hf⟩ : ∃ f, fs[k]? = some f := ⟨_, List.getElem?_eq_getElem (by rw [← HM.out]; exact hlt)⟩
      obtain ⟨u, hu⟩ : ∃ u, vals[k]? = some u := ⟨_, List.getElem?_eq_getElem (by rw [HIN.out.len, ← HM.out]; exact hlt)⟩
      obtain ⟨a, cf, rfl, hda⟩ := HIN.out.data k f u hf hu
      obtain ⟨t, bs⟩ := f
      obtain ⟨n, hn⟩ : ∃ n, n = bs.length := ⟨_, rfl⟩
      have hda' : Reads w w.heap.size 1 a n (bs.map B8) := by rw [hn]; exact hda
      have hu' : vals[k]? = some (.slice a n cf) := by rw [hn]; exact hu
      have hnb : n ≤ 140737488351232 := by rw [hn]; exact HTOG.out k _ hf
      obtain ⟨ad, hA, hbl, hcl⟩ := HIN.out.row.2 (by rw [← HM.out]; omega)
      obtain ⟨gA, oA, sA⟩ := ad
      have hsA : sA = none := HSP.out _ hA (by rw [← HM.out]; omega)
      subst hsA
      subst hA
      have hg2 := fileCells_get fs vals hf hu'
      have x0 : w.cell? ⟨gA, oA + k * 2, none⟩ = some (.string ⟨t.toArray⟩) := by have h := hcl _ _ hg2.1; rw [add_plain] at h; exact h
      have x1 : w.cell? ⟨gA, oA + k * 2 + 1, none⟩ = some (.slice a n cf) := by have h := hcl _ _ hg2.2; rw [add_plain] at h; exact h
      have y0 : wr.cell? ⟨gA, oA + k * 2, none⟩ = some (.string ⟨t.toArray⟩) := (hbel.cell (p := ⟨gA, oA + k * 2, none⟩) hbl).trans x0
      have y1 : wr.cell? ⟨gA, oA + k * 2 + 1, none⟩ = some (.slice a n cf) := (hbel.cell (p := ⟨gA, oA + k * 2 + 1, none⟩) hbl).trans x1
      have HRD : Hid (∀ W, Below w.heap.size w W → Reads W W.heap.size 1 a n (bs.map B8)) := Lib.hid fun W hW => ((hda'.below hW).more hW.size)
      have HQ : Hid (∀ W, Below w.heap.size w W → W.cell? ⟨gA, oA + k * 2, none⟩ = some (.string ⟨t.toArray⟩) ∧ W.cell? ⟨gA, oA + k * 2 + 1, none⟩ = some (.slice a n cf)) := Lib.hid fun W hW => ⟨(hW.cell (p := ⟨gA, oA + k * 2, none⟩) hbl).trans x0, (hW.cell (p := ⟨gA, oA + k * 2 + 1, none⟩) hbl).trans x1⟩
      have HST : Hid (fs.take (k + 1) = fs.take k ++ [(t, bs)]) := Lib.hid (by rw [List.take_add_one, hf]; rfl)
      have HOWN := Lib.hid hown
      have HDAT := Lib.hid hdat
      have HVL := Lib.hid hvl
      have HIK := Lib.hid hik
      have HN := Lib.hid hn
      have HM63 : Hid (k + 1 ≤ maxLen) := Lib.hid (by simp only [maxLen]; omega)
      have HB40 : Hid ((k + 1) * 40 ≤ 140737488355328) := Lib.hid (by omega)
      have HN63 : Hid (0 + n ≤ maxLen) := Lib.hid (by simp only [maxLen]; omega)
      have HB8 : Hid (∀ u ∈ bs.map B8, u.oneCell' = true) := by intro u hu; simp only [List.mem_map] at hu; obtain ⟨b, _, rfl⟩ := hu; rfl
      have hk0 : (0 : Int) ≤ (k : Int) := by omega
      have hk1 : (k : Int) < (m : Int) := by omega
      clear hown hdat hvl hbel x0 x1 hf hu hu' hda hda' hcl hg2 hik hn
      go_wp2
      go_region_held3 (fun w' => w'.cell? ⟨gA, oA + k * 2, none⟩ = some (.string ⟨t.toArray⟩) ∧ w'.cell? ⟨gA, oA + k * 2 + 1, none⟩ = some (.slice a n cf)) (first | go_keep | exact HQ.out _ HBW.out | exact HQ.out _ (HBA.out _) | exact HQ.out _ HBZ.out) ((first
        | (refine step_append_any _ (by rfl) (.const (.slice none 0 0)) (.tmp 21) 26 (by rfl) w.heap.size 5 i5 _ 1 1 Tryz.underlying26 hi5 hx0 hx1 hx2 rfl (by omega) (.slice none 0 0) 0 [] (by rfl) (World.ownsRow_nil _ _ _ _) wr.heap.size a n cf (bs.map B8) (by rfl) (HRD.out wr HB.out).drew HB8.out HN63.out (by omega) (by first | exact hszz | omega) ?_; intro v2 w2 hown2 hg2 hat2; obtain ⟨a2, c2, rfl, _⟩ := own_shape hown2; rw [Nat.zero_add, List.nil_append] at hown2; have HO2 := Lib.hid hown2; have HBW : Hid (Below w.heap.size w w2) := Lib.hid ((below_drew1 HB.out).grown hg2 (by first | exact hszz | omega) (fun q hq => by simp [Value.ownBlock] at hq)); have hs2 : wr.heap.size ≤ w2.heap.size := hg2.size; have HBA : Hid (∀ o, Below w.heap.size w (w2.alloc o)) := Lib.hid (fun o => HBW.out.alloc (Nat.le_trans hszz hs2) o); have HOW2 : Hid (w2.ownsRow w.heap.size 75 2 (.slice a3 k c3) k (fileCells (fs.take k) vs)) := Lib.hid ((row_drew HOWN.out).kept hg2 (own_or_none _)); have HKD : Hid (∀ (k' : Nat) (f : File) (u : Value), (fs.take k)[k']? = some f → vs[k']? = some u → w2.ownsRow w.heap.size 5 1 u f.2.length (f.2.map B8)) := Lib.hid (fun k' f u hf hu => (row_drew (HDAT.out k' f u hf hu)).kept hg2 (own_or_none _)); clear hown2 hg2 hat2)
        | (refine step_append_any _ (by rfl) (.tmp 11) (.tmp 24) 22 (by rfl) w.heap.size 75 iF _ 2 40 Tryz.underlying22 hiF hz0 hz1 hz2 rfl (by omega) (.slice a3 k c3) k _ (by rfl) (HOW2.out.alloc _) (w2.heap.size + 1) (some ⟨w2.heap.size, 0, none⟩) 1 1 [.string ⟨t.toArray⟩, .slice a2 n c2] (by rfl) (by exact reads_blk (t := 75) (blk_last _ _ _ _ rfl) (by omega) rfl) (by intro u hu; simp at hu; rcases hu with rfl | rfl <;> rfl) HM63.out HB40.out (by rw [alloc_size]; omega) ?_; intro v3 w3 hown3 hg3 hat3; obtain ⟨a4, c4, rfl, _⟩ := own_shape hown3; have HOWN3 := Lib.hid hown3; have HG3 : Hid ((w2.alloc (.cells #[.string ⟨t.toArray⟩, .slice a2 n c2] 75)).grownBy w3 (Value.slice a3 k c3).ownBlock) := Lib.hid hg3; have HBZ : Hid (Below w.heap.size w w3) := Lib.hid ((HBA.out _).grown hg3 (by rw [alloc_size]; omega) (fun q hq => (HOWN.out.lt q hq).1)); clear hown3 hg3 hat3)
        | fail))
      all_goals (
        go_wp2
        go_roundw
        case rel =>
          have hdl : bs.length = n := HN.out.symm
          have hrow2 : w3.ownsRow w.heap.size 5 1 (.slice a2 n c2) n (bs.map B8) :=
            (HO2.out.alloc _).kept HG3.out (own_ne (w := w2.alloc (.cells #[.string ⟨t.toArray⟩, .slice a2 n c2] 75)) (HO2.out.alloc _) (HOW2.out.alloc _) (by decide))
          refine ⟨k + 1, by omega, by go_num, ?_, HBZ.out⟩
          rw [HST.out]
          refine FilesAt.snoc (vals := vs) (u := .slice a2 n c2) (by rw [HVL.out, HIK.out]) (fun k' f u hf hu => ?_) (by rw [HIK.out]; exact HOWN3.out) (by show w3.ownsRow _ _ _ _ bs.length _; rw [hdl]; exact hrow2)
          have := HKD.out k' f u hf hu
          exact (this.alloc _).kept HG3.out (own_ne (w := w2.alloc (.cells #[.string ⟨t.toArray⟩, .slice a2 n c2] 75)) (this.alloc _) (HOW2.out.alloc _) (by decide))
        case measure => simp [intOf]; omega)
    · go_wp2
      go_ret
      have hk2 : fs.take k = fs := List.take_of_length_le (by rw [← HM.out]; omega)
      rw [hk2] at hown hdat
      refine ⟨_, rfl, ⟨vs, by rw [hvl, ← HM.out]; omega, ?_, hdat⟩, hbel⟩
      rw [← HM.out, show m = k by omega]; exact hown
end Go.Proofs.YtdmcjomcbhdcbaaGreat
namespace Go.Proofs.YtdmcjomcbhdcbaaGreat
open Go.RowKit Go.Maps
theorem Touch.more {G : Nat → Prop} {a b : World} (h : Touch G a b) (o : Obj) : Touch G a (b.alloc o) :=
  ⟨h.os, h.tape, h.output, by have := h.size; rw [alloc_size]; omega, fun k hk hn => (Below.heap_alloc b o k (Nat.lt_of_lt_of_le hk h.size)).trans (h.block k hk hn)⟩


section
variable {P : Program} (w : World)
/-- The builtin copy over elements of several cells. -/
theorem run_copy_wide (dT sT ty elem : TypeId) (size : Nat) (g dLen dCap : Nat) (a : Addr) (sLen sCap : Nat) (cur : Array Value) (t : TypeId) (cs : List Value)
    (hu : P.underlying dT = some (.slice elem)) (hs : (P.info? elem).map (·.size) = some size)
    (hg : w.heap[g]? = some (.cells cur t (0, 0))) (hn : cs.length = Nat.min sLen dLen * size)
    (hsrc : ∀ j v, cs[j]? = some v → w.cell? (a.add j) = some v) (hfit : cs.length = cur.size) (h1 : ∀ v ∈ cs, v.oneCell' = true) :
    (Builtin.copy_ #[dT, sT] ty #[.slice (some ⟨g, 0, none⟩) dLen dCap, .slice (some a) sLen sCap]).run P w = .ok (goInt (Nat.min sLen dLen)) (w.setRow g cs.toArray) := by
  have hl := run_loadCells_list (P := P) w a cs hsrc
  have hst := run_storeCells_at P g 0 t cs 0 cur w hg (by simp; omega) h1
  have hd : cur.toList.drop cs.length = [] := List.drop_of_length_le (by simp; omega)
  simp only [Nat.zero_add, List.take_zero, List.nil_append, hd, List.append_nil] at hst
  cases hq : P.info? elem with
  | none => simp [hq] at hs
  | some i =>
    have hi : i.size = size := by simpa [hq] using hs
    simp [Builtin.copy_, run_underlying hu, Builtin.lenOf, Builtin.firstCells, sizeOf, typeInfo, hq, hi, ← hn, hl, hst]
end

theorem faultInfo : (Tryz.prog.info? 181).map (fun i => (i.zero, i.size, i.bytes)) = some (some (.agg #[.int .i64 0, .int .i64 0]), 2, 16) := by kernel_rfl
theorem faultSize : (Tryz.prog.info? 181).map (·.size) = some 2 := by kernel_rfl
theorem planCells_length (l : List (Int × Int)) : (planCells l).length = l.length * 2 := by
  induction l with
  | nil => rfl
  | cons x r ih =>
    have e : planCells (x :: r) = [.int .i64 x.1, .int .i64 x.2] ++ planCells r := rfl
    rw [e, List.length_append, ih, List.length_cons]; simp; omega
theorem planCells_one (l : List (Int × Int)) : ∀ v ∈ planCells l, v.oneCell' = true := by
  intro v hv
  obtain ⟨f, _, hf⟩ := List.mem_flatMap.1 hv
  simp at hf
  rcases hf with rfl | rfl <;> rfl

theorem arm_nil (s : Value) (w : World) : Calls Tryz.prog 56 #[.pointer none, s] w fun e w' => e = .returned (.tuple #[]) ∧ w = w' := by
  go_enter Tryz.func56, Tryz.ntmps56
  go_wp2
  exact bodyPost_ret (v := .tuple #[]) (by simp only [results, Tryz.results56]; go_simp) rfl ⟨rfl, rfl⟩

theorem copy_plan (W : World) (g n c B : Nat) (A : Option Addr) (l : List (Int × Int)) (cur : Array Value) (hb : Blk W g 181 cur) (hs : cur.size = n * 2) (hr : Reads W B 2 A n (planCells l)) (hl : l.length = n) :
    ∃ W2, (Builtin.copy_ #[23, 23] 3 #[.slice (some ⟨g, 0, none⟩) n n, .slice A n c]).run Tryz.prog W = .ok (goInt n) W2 ∧ Blk W2 g 181 (planCells l).toArray ∧ Touch (· = g) W W2 ∧ W2.heap.size = W.heap.size := by
  have hpl : (planCells l).length = n * 2 := by rw [planCells_length, hl]
  cases A with
  | none =>
    have hn : n = 0 := by
      rcases Nat.eq_zero_or_pos n with h | h
      · exact h
      · obtain ⟨ad, e, _⟩ := hr.2 h; cases e
    subst hn
    have hll : l = [] := List.eq_nil_of_length_eq_zero hl
    subst hll
    have hcur : cur = #[] := Array.eq_empty_of_size_eq_zero (by omega)
    subst hcur
    refine ⟨W, ?_, hb, Touch.refl _ _, rfl⟩
    obtain ⟨i, hi, _, hz1, _⟩ := info_parts faultInfo
    simp [Builtin.copy_, run_underlying Tryz.underlying23, Builtin.lenOf, Builtin.firstCells, sizeOf, typeInfo, hi, storeCells]
  | some ad =>
    refine ⟨_, ?_, setRow_heap W g cur _ _ _ hb, ⟨rfl, rfl, rfl, by simp [World.setRow], fun k _ hk => setRow_other W g k _ hk⟩, by simp [World.setRow]⟩
    have hsrc : ∀ j v, (planCells l)[j]? = some v → W.cell? (ad.add j) = some v := by
      intro j v hj
      rcases Nat.eq_zero_or_pos n with h | h
      · have : planCells l = [] := List.eq_nil_of_length_eq_zero (by omega)
        rw [this] at hj; simp at hj
      · obtain ⟨ad', e, _, hc⟩ := hr.2 h
        injection e with e; subst e; exact hc j v hj
    have := run_copy_wide (P := Tryz.prog) W 23 23 3 181 2 g n n ad n c cur 181 (planCells l) Tryz.underlying23 faultSize hb (by rw [hpl, show Nat.min n n = n from Nat.min_self n]) hsrc (by omega) (planCells_one l)
    rwa [show Nat.min n n = n from Nat.min_self n] at this

set_option maxRecDepth 100000 in
set_option maxHeartbeats 1000000 in
theorem arm_any (q : Nat) (dv : Value) (X : Wnd) (F : Nat → Prop) (A : Option Addr) (n c : Nat) (l : List (Int × Int)) (w : World) (h : Wn w q dv X F) (hr : Reads w w.heap.size 2 A n (planCells l)) (hA : 0 < n → ∀ ad, A = some ad → ¬F ad.block) (hn : n * 16 ≤ 140737488351232) :
    Calls Tryz.prog 56 #[.pointer (some ⟨q, 0, none⟩), .slice A n c] w fun e w' =>
      e = .returned (.tuple #[]) ∧ Wn w' q dv (X.arm l) (grow F w w') ∧ Touch F w w' := by
  obtain ⟨pv, fq, h, hF0⟩ := h
  have hl : l.length = n := by have := hr.1; rw [planCells_length] at this; omega
  obtain ⟨i, hi, hz0, hz1, hz2⟩ := info_parts faultInfo
  have hmk := fun (W : World) => run_make (P := Tryz.prog) W 23 181 i _ Tryz.underlying23 hi hz0 .i64 .i64 (n : Int) (n : Int) (by omega) (Int.le_refl _) (by rw [hz2]; omega) (by omega)
  simp only [Int.toNat_natCast, hz1] at hmk
  have hql := h.head.lt
  obtain ⟨W1, hW1⟩ : ∃ W1, W1 = (w.setCell ⟨q, 3, none⟩ (.slice (some ⟨w.heap.size, 0, none⟩) n n)).alloc (.cells (madeCells #[.int .i64 0, .int .i64 0] (n * 2)) 181) := ⟨_, rfl⟩
  have hqh : q ≠ w.heap.size := Nat.ne_of_lt hql
  have hBh : Blk W1 w.heap.size 181 (madeCells #[.int .i64 0, .int .i64 0] (n * 2)) := by
    rw [hW1]
    have := Blk.new (w.setCell ⟨q, 3, none⟩ (.slice (some ⟨w.heap.size, 0, none⟩) n n)) 181 (madeCells #[.int .i64 0, .int .i64 0] (n * 2))
    rwa [size_set] at this
  have hT1 : Touch (· = q) w W1 := by rw [hW1]; exact ((Touch.refl (· = q) w).set (p := ⟨q, 3, none⟩) rfl _).more _
  have hs1 : W1.heap.size = w.heap.size + 1 := by rw [hW1, alloc_size, size_set]
  have hq1 : Blk W1 q 47 #[dv, .bool X.down, .bool X.away, .slice (some ⟨w.heap.size, 0, none⟩) n n, .int .i64 X.calls, .int .i64 X.round, fuseV fq] := by
    rw [hW1]; exact (h.head.set_ 3 _).alloc _
  have hFq : F q := hF0 q (.inl rfl)
  have hR1 : Reads W1 w.heap.size 2 A n (planCells l) := ⟨hr.1, fun h0 => by
    obtain ⟨ad, e, hb, hc⟩ := hr.2 h0
    refine ⟨ad, e, hb, fun j u hu => ?_⟩
    rw [← hc j u hu]
    exact World.cell?_of_block (hT1.block _ (by rw [block_of_add]; exact hb) (by rw [block_of_add]; intro e'; exact hA h0 ad e (by rw [e']; exact hFq)))⟩
  obtain ⟨W2, hrun, hBh2, hT2, hs2⟩ := copy_plan W1 w.heap.size n c _ A l _ hBh (size_madeCells _ _) hR1 hl
  rw [hW1] at hrun
  have hq2 : Blk W2 q 47 #[dv, .bool X.down, .bool X.away, .slice (some ⟨w.heap.size, 0, none⟩) n n, .int .i64 X.calls, .int .i64 X.round, fuseV fq] := (hT2.block q (by omega) hqh).trans hq1
  have h3 : w.cell? ⟨q, 3, none⟩ = some pv := h.head.cell 3
  have h3f : w.frozen? ⟨q, 3, none⟩ = false := h.head.frozen 3
  have h4 : W2.cell? ⟨q, 4, none⟩ = some (.int .i64 X.calls) := hq2.cell 4
  have h4f : W2.frozen? ⟨q, 4, none⟩ = false := hq2.frozen 4
  have HT : Hid (Touch F w W2) := Lib.hid ((hT1.mono fun k _ hk => by rw [hk]; exact hFq).trans (hT2.mono fun k _ hk => by subst hk; exact .inr ⟨Nat.le_refl _, by omega⟩))
  have HN : Hid (Wn (W2.setCell ⟨q, 4, none⟩ (.int .i64 0)) q dv (X.arm l) (grow F w W2)) := Lib.hid (by
    have hfar : ∀ k, k ≠ q → k ≠ w.heap.size → k < w.heap.size → (W2.setCell ⟨q, 4, none⟩ (.int .i64 0)).heap[k]? = w.heap[k]? := fun k h1 h2 h3 =>
      (Below.heap_setCell _ _ _ k h1).trans ((hT2.block k (by omega) h2).trans (hT1.block k h3 h1))
    refine ⟨.slice (some ⟨w.heap.size, 0, none⟩) n n, fq, ⟨hq2.set_ 4 _, ?_, h.none_, fun b e => ?_⟩, ?_⟩
    · have e : (X.arm l).plan = l := rfl
      rw [e, hl]
      refine ⟨by rw [planCells_length, hl], .inr ⟨w.heap.size, n, _, rfl, Nat.zero_le _, hBh2.far (p := ⟨q, 4, none⟩) (Ne.symm hqh) _, Nat.le_refl _, by unfold maxLen; omega, by simp [planCells_length, hl], ?_⟩⟩
      rw [List.take_of_length_le (by simp [planCells_length, hl])]
    · obtain ⟨f, hf, hb⟩ := h.some_ b e
      have hbl := hb.lt
      exact ⟨f, hf, (hfar b (hb.ne_ h.head (by decide)) (by omega) hbl).trans hb⟩
    · rintro k (hk | hk | hk)
      · exact .inl (hF0 k (.inl hk))
      · injection hk with hk; subst hk; exact .inr ⟨Nat.le_refl _, by show w.heap.size < W2.heap.size; omega⟩
      · exact .inl (hF0 k (.inr (.inr hk))))
  have HFQ := Lib.hid hFq
  clear hi hz0 hz1 hz2 h hr hl hF0 hA hW1 hBh hT1 hs1 hq1 hFq hR1 hBh2 hT2 hs2 hq2
  go_enter Tryz.func56, Tryz.ntmps56
  go_wp2
  go_end0
  refine ⟨rfl, HN.out.mono fun k hk => ?_, HT.out.set HFQ.out _⟩
  rcases hk with hk | hk
  · exact .inl hk
  · exact .inr ⟨hk.1, by rw [size_set]; exact hk.2⟩

theorem fuse_any (q : Nat) (dv : Value) (X : Wnd) (F : Nat → Prop) (r k i : Int) (w : World) (h : Wn w q dv X F) :
    Calls Tryz.prog 60 #[.pointer (some ⟨q, 0, none⟩), .int .i64 r, .int .i64 k, .int .i64 i] w fun e w' =>
      e = .returned (.tuple #[]) ∧ Wn w' q dv (X.setFuse r k i) (grow F w w') ∧ Touch F w w' := by
  obtain ⟨pv, fq, h, hF⟩ := h
  have h6 : w.cell? ⟨q, 6, none⟩ = some (fuseV fq) := h.head.cell 6
  have h6f : w.frozen? ⟨q, 6, none⟩ = false := h.head.frozen 6
  have hq : F q := hF q (.inl rfl)
  have hql := h.head.lt
  have HA := Lib.hid h
  have HF := Lib.hid hF
  clear h hF
  by_cases hr : 0 ≤ r
  · have HR : Hid (X.setFuse r k i = { X with fuse := some ⟨r, k, i⟩ }) := Lib.hid (by unfold Wnd.setFuse; rw [if_pos hr])
    rw [HR.out]
    go_enter Tryz.func60, Tryz.ntmps60
    go_wp2
    go_end0
    have hT : Touch F w (((w.setCell ⟨q, 6, none⟩ (.pointer none)).setCell ⟨q, 6, none⟩ (.pointer (some ⟨w.heap.size, 0, none⟩))).alloc (.cells #[.int .i64 r, .int .i64 k, .int .i64 i] 109)) := (((Touch.refl _ _).set hq _).set hq _).more _
    refine ⟨rfl, ⟨pv, some w.heap.size, ⟨?_, ?_, fun e => (by cases e), fun b e => ?_⟩, ?_⟩, hT⟩
    · exact ((HA.out.head.set_ 6 (.pointer none)).set_ 6 (.pointer (some ⟨w.heap.size, 0, none⟩))).alloc _
    · refine ownsRow_keep HA.out.plan fun k hk => ?_
      have hkl := (HA.out.plan.lt k hk).2
      have hkq : k ≠ q := fun e => own_blk_ne HA.out.plan HA.out.head (by decide) (by rw [hk, e])
      exact (Below.heap_alloc _ _ k (by rw [size_set, size_set]; exact hkl)).trans ((Below.heap_setCell _ _ _ k hkq).trans (Below.heap_setCell _ _ _ k hkq))
    · injection e with e; subst e
      refine ⟨_, rfl, ?_⟩
      have := Blk.new ((w.setCell ⟨q, 6, none⟩ (.pointer none)).setCell ⟨q, 6, none⟩ (.pointer (some ⟨w.heap.size, 0, none⟩))) 109 #[.int .i64 r, .int .i64 k, .int .i64 i]
      rwa [size_set, size_set] at this
    · rintro j (hj | hj | hj)
      · exact .inl (HF.out j (.inl hj))
      · exact .inl (HF.out j (.inr (.inl hj)))
      · injection hj with hj; subst hj
        exact .inr ⟨Nat.le_refl _, by rw [alloc_size, size_set, size_set]; omega⟩
  · have HR : Hid (X.setFuse r k i = { X with fuse := none }) := Lib.hid (by unfold Wnd.setFuse; rw [if_neg hr])
    rw [HR.out]
    have hr' : r < 0 := by omega
    go_enter Tryz.func60, Tryz.ntmps60
    go_wp2
    go_end0
    refine ⟨rfl, ⟨pv, none, HA.out.unfuse, fun k hk => .inl ?_⟩, Touch.setCell _ _ _ hq⟩
    rcases hk with hk | hk | hk
    · exact HF.out k (.inl hk)
    · exact HF.out k (.inr (.inl hk))
    · cases hk

theorem fuse_nil (r k i : Int) (w : World) : Calls Tryz.prog 60 #[.pointer none, .int .i64 r, .int .i64 k, .int .i64 i] w fun e w' => e = .returned (.tuple #[]) ∧ w = w' := by
  go_enter Tryz.func60, Tryz.ntmps60
  go_wp2
  exact bodyPost_ret (v := .tuple #[]) (by simp only [results, Tryz.results60]; go_simp) rfl ⟨rfl, rfl⟩
end Go.Proofs.YtdmcjomcbhdcbaaGreat
namespace Go.Proofs.YtdmcjomcbhdcbaaGreat
open Go.RowKit Go.Maps
theorem WD.below {w W : World} {q p : Nat} {X : Wnd} {S : Drv} {F : Nat → Prop} (h : WD w q p X S F) (hb : Below w.heap.size w W) : WD W q p X S F :=
  h.keep (Touch.of_below (F := fun _ => False) hb) fun _ _ h => h
theorem dr_lt {w : World} {p : Nat} {S : Drv} {F : Nat → Prop} (h : Dr w p S F) : Dr w p S fun k => F k ∧ k < w.heap.size := by
  obtain ⟨addr, L, e, hD, hF⟩ := h
  exact ⟨addr, L, e, hD, fun k hk => ⟨hF k hk, hD.foot_lt hk⟩⟩


section
variable {w w1 : World} {q p : Nat} {X Y : Wnd} {S T : Drv} {F FW FD : Nat → Prop}
theorem control_end (h : Apart w q p X S FW FD) (hF : ∀ k, FW k ∨ FD k → F k) (hw : Wn w1 q (.pointer (some ⟨p, 0, none⟩)) Y (grow FW w w1)) (ht : Touch FW w w1) :
    WD w1 q p Y S (grow F w w1) ∧ Touch F w w1 := by
  refine ⟨⟨grow FW w w1, FD, ⟨hw, h.dr.keep ht fun k hd hw => h.no k hw hd, fun k hk => ?_, fun k hk => Nat.lt_of_lt_of_le (h.dlt k hk) ht.size, fun k hk hd => ?_⟩, fun k hk => ?_⟩, ht.mono fun k _ hk => hF k (.inl hk)⟩
  · rcases hk with hk | hk
    · exact Nat.lt_of_lt_of_le (h.wlt k hk) ht.size
    · exact hk.2
  · rcases hk with hk | hk
    · exact h.no k hk hd
    · have := h.dlt k hd; omega
  · rcases hk with (hk | hk) | hk
    · exact .inl (hF k (.inl hk))
    · exact .inr hk
    · exact .inl (hF k (.inr hk))
theorem WD.wn (h : WD w q p X S F) : Wn w q (.pointer (some ⟨p, 0, none⟩)) X F := by
  obtain ⟨FW, FD, h, hF⟩ := h
  exact h.wn.mono fun k hk => hF k (.inl hk)
theorem WD.dr (h : WD w q p X S F) : Dr w p S F := by
  obtain ⟨FW, FD, h, hF⟩ := h
  exact h.dr.mono fun k hk => hF k (.inr hk)
theorem WD.lt (h : WD w q p X S F) : WD w q p X S fun k => F k ∧ k < w.heap.size := by
  obtain ⟨FW, FD, h, hF⟩ := h
  refine ⟨FW, FD, h, fun k hk => ⟨hF k hk, ?_⟩⟩
  rcases hk with hk | hk
  · exact h.wlt k hk
  · exact h.dlt k hk
end

theorem wpower_any (q p : Nat) (X : Wnd) (S : Drv) (F : Nat → Prop) (on : Bool) (w : World) (h : WD w q p X S F) :
    Calls Tryz.prog 14 #[.pointer (some ⟨q, 0, none⟩), .bool on] w fun e w' => e = .returned (.tuple #[]) ∧ WD w' q p { X with down := !on } S (grow F w w') ∧ Touch F w w' := by
  obtain ⟨FW, FD, hA, hF⟩ := h
  refine (power_any q _ X FW on w hA.wn).mono ?_
  rintro e w' ⟨he, hw, ht⟩
  exact ⟨he, control_end hA hF (hw.mono fun k hk => .inl hk) ht⟩
theorem woffline_any (q p : Nat) (X : Wnd) (S : Drv) (F : Nat → Prop) (off : Bool) (w : World) (h : WD w q p X S F) :
    Calls Tryz.prog 58 #[.pointer (some ⟨q, 0, none⟩), .bool off] w fun e w' => e = .returned (.tuple #[]) ∧ WD w' q p { X with away := off } S (grow F w w') ∧ Touch F w w' := by
  obtain ⟨FW, FD, hA, hF⟩ := h
  refine (offline_any q _ X FW off w hA.wn).mono ?_
  rintro e w' ⟨he, hw, ht⟩
  exact ⟨he, control_end hA hF (hw.mono fun k hk => .inl hk) ht⟩
theorem wrest_any (q p : Nat) (X : Wnd) (S : Drv) (F : Nat → Prop) (off : Bool) (w : World) (h : WD w q p X S F) (hX : X.Ok) :
    Calls Tryz.prog 12 #[.pointer (some ⟨q, 0, none⟩), .bool off] w fun e w' => e = .returned (.tuple #[]) ∧ WD w' q p (X.rest off) S (grow F w w') ∧ Touch F w w' := by
  obtain ⟨FW, FD, hA, hF⟩ := h
  refine (rest_any q _ X FW off w hA.wn hX).mono ?_
  rintro e w' ⟨he, hw, ht⟩
  exact ⟨he, control_end hA hF (hw.mono fun k hk => .inl hk) ht⟩
theorem wfuse_any (q p : Nat) (X : Wnd) (S : Drv) (F : Nat → Prop) (r k i : Int) (w : World) (h : WD w q p X S F) :
    Calls Tryz.prog 60 #[.pointer (some ⟨q, 0, none⟩), .int .i64 r, .int .i64 k, .int .i64 i] w fun e w' => e = .returned (.tuple #[]) ∧ WD w' q p (X.setFuse r k i) S (grow F w w') ∧ Touch F w w' := by
  obtain ⟨FW, FD, hA, hF⟩ := h
  refine (fuse_any q _ X FW r k i w hA.wn).mono ?_
  rintro e w' ⟨he, hw, ht⟩
  exact ⟨he, control_end hA hF hw ht⟩
theorem warm_any (q p : Nat) (X : Wnd) (S : Drv) (F : Nat → Prop) (A : Option Addr) (n c : Nat) (l : List (Int × Int)) (w : World) (h : WD w q p X S F) (hr : Reads w w.heap.size 2 A n (planCells l)) (hA : 0 < n → ∀ ad, A = some ad → ¬F ad.block) (hn : n * 16 ≤ 140737488351232) :
    Calls Tryz.prog 56 #[.pointer (some ⟨q, 0, none⟩), .slice A n c] w fun e w' => e = .returned (.tuple #[]) ∧ WD w' q p (X.arm l) S (grow F w w') ∧ Touch F w w' := by
  obtain ⟨FW, FD, hAp, hF⟩ := h
  refine (arm_any q _ X FW A n c l w hAp.wn hr (fun h0 ad e hf => hA h0 ad e (hF _ (.inl hf))) hn).mono ?_
  rintro e w' ⟨he, hw, ht⟩
  exact ⟨he, control_end hAp hF hw ht⟩

/-- A wound and its drive, all of it at h or above. -/
def WDb (w : World) (h q p : Nat) (X : Wnd) (S : Drv) : Prop := WD w q p X S fun k => h ≤ k ∧ k < w.heap.size
theorem WDb.step {w w' : World} {h q p : Nat} {Y : Wnd} {T : Drv} (hh : h ≤ w.heap.size) (hd : WD w' q p Y T (grow (fun k => h ≤ k ∧ k < w.heap.size) w w')) (ht : Touch (fun k => h ≤ k ∧ k < w.heap.size) w w') : WDb w' h q p Y T ∧ Below h w w' :=
  ⟨hd.mono fun k hk => by
    have := ht.size
    rcases hk with hk | hk
    · exact ⟨hk.1, by omega⟩
    · exact ⟨by omega, hk.2⟩, ht.below hh fun k hk => hk.1⟩
theorem WDb.stepF {w w' : World} {h q p : Nat} {Y : Wnd} {T : Drv} {F : Nat → Prop} (hF : ∀ k, F k → h ≤ k ∧ k < w.heap.size) (hh : h ≤ w.heap.size) (hd : WD w' q p Y T (grow F w w')) (ht : Touch F w w') : WDb w' h q p Y T ∧ Below h w w' :=
  ⟨hd.mono fun k hk => by
    have := ht.size
    rcases hk with hk | hk
    · have := hF k hk; exact ⟨this.1, by omega⟩
    · exact ⟨by omega, hk.2⟩, ht.below hh fun k hk => (hF k hk).1⟩
theorem WDb.below {w w' : World} {h q p : Nat} {X : Wnd} {S : Drv} (hd : WDb w h q p X S) (hb : Below w.heap.size w w') : WDb w' h q p X S :=
  (WD.below hd hb).mono fun _ hk => ⟨hk.1, Nat.lt_of_lt_of_le hk.2 hb.size⟩
/-- A drive, all of it at h or above. -/
def Drb (w : World) (h p : Nat) (S : Drv) : Prop := Dr w p S fun k => h ≤ k ∧ k < w.heap.size
theorem Drb.step {w w' : World} {h p : Nat} {T : Drv} (hh : h ≤ w.heap.size) (hd : Dr w' p T (grow (fun k => h ≤ k ∧ k < w.heap.size) w w')) (ht : Touch (fun k => h ≤ k ∧ k < w.heap.size) w w') : Drb w' h p T ∧ Below h w w' :=
  ⟨hd.mono fun k hk => by
    have := ht.size
    rcases hk with hk | hk
    · exact ⟨hk.1, by omega⟩
    · exact ⟨by omega, hk.2⟩, ht.below hh fun k hk => hk.1⟩
theorem Drb.below {w w' : World} {h p : Nat} {S : Drv} (hd : Drb w h p S) (hb : Below w.heap.size w w') : Drb w' h p S :=
  (Dr.below hd hb).mono fun _ hk => ⟨hk.1, Nat.lt_of_lt_of_le hk.2 hb.size⟩

/-- A new drive. -/
theorem newb_any (r : Int) (w : World) (h0 : 0 ≤ r) (h1 : r ≤ 1073741824) :
    Calls Tryz.prog 32 #[.int .i64 r] w fun e w' => ∃ p, e = .returned (.pointer (some ⟨p, 0, none⟩)) ∧ Drb w' w.heap.size p (Drv.new r.toNat) ∧ Below w.heap.size w w' := by
  refine (new_good r w h0 h1).mono ?_
  rintro e w' ⟨rfl, rfl⟩
  have hd := dr_new w r.toNat
  rw [show ((r.toNat : Nat) : Int) = r by omega] at hd
  exact ⟨_, rfl, (dr_lt ⟨_, hd⟩).mono fun k hk => hk, (((Below.refl _ w).alloc (Nat.le_refl _) _).alloc (by simp) _).alloc (by simp; omega) _⟩
/-- A new wound on a drive. -/
theorem wnewb_any (h p : Nat) (S : Drv) (w : World) (hh : h ≤ w.heap.size) (hd : Drb w h p S) :
    Calls Tryz.prog 31 #[.pointer (some ⟨p, 0, none⟩)] w fun e w' => ∃ q, e = .returned (.pointer (some ⟨q, 0, none⟩)) ∧ WDb w' h q p Wnd.new S ∧ Below w.heap.size w w' := by
  refine (wnew_any p w).mono ?_
  rintro e w' ⟨rfl, hw, hb, hs⟩
  refine ⟨_, rfl, ⟨(· = w.heap.size), fun k => h ≤ k ∧ k < w.heap.size, ⟨hw, Dr.below hd hb, fun k hk => by rw [hk, hs]; omega, fun k hk => by have := hk.2; omega, fun k hk hd => by have := hd.2; omega⟩, fun k hk => ?_⟩, hb⟩
  rcases hk with hk | hk
  · rw [hk, hs]; omega
  · rw [hs]; exact ⟨hk.1, by omega⟩
end Go.Proofs.YtdmcjomcbhdcbaaGreat
