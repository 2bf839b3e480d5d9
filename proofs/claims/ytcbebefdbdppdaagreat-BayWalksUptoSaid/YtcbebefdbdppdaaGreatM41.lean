/- The document's directory, walked: set.; The document's directory behind a change; a change of the document's drive.; The document's drive, walked: its calls that make changes. -/
import Derived.Test.YtcbebefdbdppdaaGreatM40
import Derived.Deep.DeepCutAuto
import Derived.Deep.RegionHeld3
namespace Go.Proofs.YtcbebefdbdppdaaGreat
open Go.RowKit Go.Maps
def epos (l : List Ent) (s : Nm) : Nat := (l.takeWhile fun e => decide (e.1 < s)).length
theorem epos_le (l : List Ent) (s : Nm) : epos l s ≤ l.length := by
  unfold epos
  induction l with
  | nil => exact Nat.le_refl _
  | cons a l ih => rw [List.takeWhile_cons]; split <;> simp; exact ih
theorem epos_lt : ∀ {l : List Ent} {s : Nm} {k : Nat}, k < epos l s → ∀ {t i}, l[k]? = some (t, i) → t < s
  | [], s, k, h, t, i, hk => by simp at hk
  | a :: l, s, k, h, t, i, hk => by
    unfold epos at h
    rw [List.takeWhile_cons] at h
    split at h
    · rename_i ha
      cases k with
      | zero => simp at hk; subst hk; simpa using ha
      | succ k => exact epos_lt (l := l) (by simpa [epos] using h) (by simpa using hk)
    · simp at h
theorem epos_at : ∀ {l : List Ent} {s : Nm} {t i}, l[epos l s]? = some (t, i) → ¬ t < s
  | [], s, t, i, hk => by simp at hk
  | a :: l, s, t, i, hk => by
    unfold epos at hk
    rw [List.takeWhile_cons] at hk
    split at hk
    · exact epos_at (l := l) (by simpa [epos] using hk)
    · rename_i ha
      simp at hk
      subst hk
      simpa using ha
theorem entCells_snoc (l : List Ent) (t : Nm) (i : Nat) : entCells (l ++ [(t, i)]) = entCells l ++ [strV t, intZ i] := by unfold entCells; rw [List.flatMap_append]; rfl
theorem take_snoc_ {α : Type} {l : List α} {k : Nat} {x : α} (h : l[k]? = some x) : l.take (k + 1) = l.take k ++ [x] := by rw [List.take_add_one, h]; rfl
def eset (l : List Ent) (s : Nm) (o : Option Nat) : List Ent :=
  l.take (epos l s) ++ (match o with | none => [] | some i => [(s, i)]) ++ (if (l[epos l s]?.map (·.1)) = some s then l.drop (epos l s + 1) else l.drop (epos l s))
theorem Ents.set {D : Dir} {l : List Ent} (h : Ents D l) (ht : Tidy D) (s : Nm) (o : Option Nat) : Ents (applyStp D (s, o)) (eset l s o) := by
  have h1 : ∀ e ∈ l.take (epos l s), e.1 < s := by
    intro e he
    obtain ⟨j, hj, rfl⟩ := List.getElem_of_mem he
    have hj' := hj
    rw [List.length_take] at hj'
    rw [List.getElem_take]
    obtain ⟨t, i, hx⟩ : ∃ t i, l[j] = (t, i) := ⟨_, _, rfl⟩
    rw [hx]
    exact epos_lt (l := l) (k := j) (by omega) (t := t) (i := i) (by rw [List.getElem?_eq_getElem (by omega), hx])
  obtain ⟨a, b⟩ := eset_parts h.rise (epos_le l s) h1 fun t i hti => epos_at hti
  unfold eset applyStp
  by_cases hs : (l[epos l s]?.map (·.1)) = some s
  · rw [if_pos hs]
    obtain ⟨⟨t, j⟩, hj, e⟩ := Option.map_eq_some_iff.1 hs
    have e' : t = s := e
    subst e'
    obtain ⟨p1, p2⟩ := a j hj
    rw [p1] at h
    cases o with
    | none => rw [List.append_nil]; exact h.del h1 (by simp) p2
    | some i => rw [List.append_assoc]; exact h.put ht h1 (by simp) p2 i
  · rw [if_neg hs]
    obtain ⟨p1, p2⟩ := b fun t i hti e => hs (by rw [hti, e]; rfl)
    rw [p1] at h
    cases o with
    | none => rw [List.append_nil]; exact h.del h1 (by simp) p2
    | some i => rw [List.append_assoc]; exact h.put ht h1 (by simp) p2 i
set_option maxRecDepth 100000 in
set_option maxHeartbeats 2000000 in
theorem mset_any (l : List Ent) (v : Value) (n : Nat) (s : Nm) (o : Option Nat) (w : World) (hn : l.length = n) (hrow : w.ownsRow 0 221 2 v n (entCells l)) (hb : n ≤ 2199023255552) (ho : ∀ i, o = some i → i ≤ 2199023255552) :
    Calls Tryz.prog 136 #[v, .string ⟨s.toArray⟩, .int .i64 (numI o)] w fun e w' => ∃ v', e = .returned v' ∧ w'.ownsRow w.heap.size 221 2 v' (eset l s o).length (entCells (eset l s o)) ∧ Below w.heap.size w w' := by
  obtain ⟨a, c, rfl, _⟩ := own_shape hrow
  obtain ⟨i0, hi0, hz0, hz1, hz2⟩ := info_parts entInfo
  have HN := Lib.hid hn
  have HR := Lib.hid hrow
  obtain ⟨k0, hk0⟩ : ∃ k0, k0 = epos l s := ⟨_, rfl⟩
  have hk0n : k0 ≤ n := by rw [hk0, ← hn]; exact epos_le l s
  have HK0 := Lib.hid hk0
  have HM := Lib.hid ho
  clear hn hrow hk0 ho
  obtain ⟨z, hz⟩ : ∃ z, z = numI o := ⟨_, rfl⟩
  rw [← hz]
  have HZ := Lib.hid hz
  clear hz
  go_enter Tryz.func136, Tryz.ntmps136
  go_wp2
  go_loopw [7, 8] (fun v i wr => ∃ k : Nat, k ≤ k0 ∧ i = .int .i64 k ∧ wr.ownsRow w.heap.size 221 2 v k (entCells (l.take k)) ∧ Below w.heap.size w wr) (fun _ i _ => k0 - (intOf i).toNat)
  case atStart => exact ⟨0, Nat.zero_le _, rfl, World.ownsRow_nil _ _ _ _, Below.refl _ _⟩
  case round =>
    obtain ⟨k, hk, rfl, hown, hbel⟩ := hrel
    have hsz : w.heap.size ≤ wr.heap.size := hbel.size
    by_cases hlt : k < k0
    · have hkn : k < n := by omega
      obtain ⟨⟨t, i⟩, hti⟩ : ∃ x, l[k]? = some x := ⟨_, List.getElem?_eq_getElem (by rw [HN.out]; exact hkn)⟩
      obtain ⟨b, rfl, hbl, x1, x2⟩ := row_pair HR.out hti HN.out
      simp only [strV] at x1
      simp only [intZ] at x2
      have hts : Op.bytesLess t s = true := by rw [bytesLess_eq]; exact decide_eq_true (epos_lt (by rw [← HK0.out]; exact hlt) hti)
      have y1 : wr.cell? ⟨b, k * 2, none⟩ = some (.string ⟨t.toArray⟩) := (hbel.cell hbl).trans x1
      have y2 : wr.cell? ⟨b, k * 2 + 1, none⟩ = some (.int .i64 i) := (hbel.cell hbl).trans x2
      have HO := Lib.hid hown
      have HB := Lib.hid hbel
      have HTI := Lib.hid hti
      clear hown hbel hti x1 x2
      obtain ⟨av, cv, rfl, _⟩ := own_shape HO.out
      go_wp2_with (at_builtin; go_must (refine wpList_append_any _ rfl (.tmp 22) (.tmp 27) 223 rfl w.heap.size 221 i0 _ 2 24 Tryz.underlying223 hi0 hz0 hz1 hz2 rfl (by omega) _ k _ rfl (HO.out.alloc _) (wr.heap.size + 1) (some ⟨wr.heap.size, 0, none⟩) 1 1 [.string ⟨t.toArray⟩, .int .i64 i] rfl (by exact reads_blk (t := 221) (blk_last _ _ _ _ rfl) (by omega) rfl) (by intro u hu; simp at hu; rcases hu with rfl | rfl <;> rfl) (by simp only [maxLen]; omega) (by omega) (by simp; omega) ?_); intro v1 w1 hown1 hg1 hat1; have HO1 := Lib.hid hown1; have HB1 : Hid (Below w.heap.size w w1) := Lib.hid ((HB.out.alloc hsz _).grown hg1 (by simp; omega) (fun k hk => (HO.out.lt k hk).1)); clear hown1 hg1 hat1)
      go_roundw
      case rel =>
        refine ⟨k + 1, by omega, by go_num, ?_, HB1.out⟩
        rw [take_snoc_ HTI.out, entCells_snoc]; exact HO1.out
      case measure => simp [intOf]; omega
    · obtain rfl : k = k0 := by omega
      have HO := Lib.hid hown
      have HB := Lib.hid hbel
      obtain ⟨av, cv, rfl, _⟩ := own_shape hown
      clear hown hbel
      have HLT : Hid ((l.take k).length = k) := Lib.hid (by rw [List.length_take, HN.out]; omega)
      by_cases hend : k < n
      · obtain ⟨⟨t, i⟩, hti⟩ : ∃ x, l[k]? = some x := ⟨_, List.getElem?_eq_getElem (by rw [HN.out]; exact hend)⟩
        obtain ⟨b, rfl, hbl, x1, x2⟩ := row_pair HR.out hti HN.out
        simp only [strV] at x1
        have hts : Op.bytesLess t s = false := by rw [bytesLess_eq]; exact decide_eq_false (epos_at (l := l) (i := i) (by rw [← HK0.out]; exact hti))
        have y1 : wr.cell? ⟨b, k * 2, none⟩ = some (.string ⟨t.toArray⟩) := (HB.out.cell hbl).trans x1
        have HTI := Lib.hid hti
        have X1 := Lib.hid x1
        clear x1 x2 hti
        by_cases he : t = s
        · subst he
          have HES0 : Hid (∀ oo, eset l t oo = l.take k ++ (match oo with | none => [] | some i => [(t, i)]) ++ l.drop (k + 1)) := Lib.hid (fun oo => by unfold eset; rw [← HK0.out, if_pos (by rw [HTI.out]; rfl)])
          obtain ⟨s, rfl⟩ : ∃ s : Nm, s = t := ⟨_, rfl⟩
          cases o with
          | none =>
            have HOO : Hid ((none : Option Nat) = none) := Lib.hid rfl
            obtain rfl : z = -1 := HZ.out
            go_wp2_with fail
            have HOA : Hid (wr.ownsRow w.heap.size 221 2 (.slice av k cv) k (entCells (l.take k))) := HO
            have HLA := HLT
            have HES : Hid ((l.take k) ++ l.drop (k + 1) = eset l s none) := Lib.hid (by have q := (HES0.out none).symm; simpa using q)
            obtain ⟨lst, hlst⟩ : ∃ x, x = (l.take k) := ⟨_, rfl⟩
            rw [← hlst] at HOA HLA HES
            clear hlst
            obtain ⟨kk, hkk⟩ : ∃ x, x = k + 1 := ⟨_, rfl⟩
            rw [← hkk] at HES
            have hkn : kk ≤ n := by omega
            have hkk2 : k ≤ kk := by omega
            have HKK := Lib.hid hkk
            clear hkk
            have HBW := HB
            go_loopw [7, 8] (fun v i wz => ∃ j : Nat, kk ≤ j ∧ j ≤ n ∧ i = .int .i64 j ∧ wz.ownsRow w.heap.size 221 2 v (k + (j - kk)) (entCells (lst ++ (l.drop kk).take (j - kk))) ∧ Below w.heap.size w wz) (fun _ i _ => n - (intOf i).toNat)
            case atStart => exact ⟨kk, Nat.le_refl _, hkn, by first | rfl | (rw [HKK.out]; done) | (rw [HKK.out]; go_num), by rw [Nat.sub_self, List.take_zero, List.append_nil, Nat.add_zero]; exact HOA.out, HBW.out⟩
            case round =>
              obtain ⟨j, hj0, hjn, rfl, hown, hbel⟩ := hrel
              have hszz := hbel.size
              have HOZ := Lib.hid hown
              have HBZ := Lib.hid hbel
              clear hown hbel
              obtain ⟨avz, cvz, rfl, _⟩ := own_shape HOZ.out
              by_cases hjl : j < n
              · obtain ⟨⟨u, i⟩, hui⟩ : ∃ x, l[j]? = some x := ⟨_, List.getElem?_eq_getElem (by rw [HN.out]; exact hjl)⟩
                obtain ⟨b, hbe, hbl, x1, x2⟩ := row_pair HR.out hui HN.out
                cases hbe
                simp only [strV] at x1
                simp only [intZ] at x2
                have z1 : wr.cell? ⟨b, j * 2, none⟩ = some (.string ⟨u.toArray⟩) := (HBZ.out.cell hbl).trans x1
                have z2 : wr.cell? ⟨b, j * 2 + 1, none⟩ = some (.int .i64 i) := (HBZ.out.cell hbl).trans x2
                have HUI := Lib.hid hui
                have hnj : k + (j - kk) ≤ 2199023255553 := by omega
                clear hui x1 x2
                go_wp2_with (at_builtin; go_must (refine wpList_append_any _ rfl (.tmp 58) (.tmp 63) 223 rfl w.heap.size 221 i0 _ 2 24 Tryz.underlying223 hi0 hz0 hz1 hz2 rfl (by omega) _ (k + (j - kk)) _ rfl (HOZ.out.alloc _) (wr.heap.size + 1) (some ⟨wr.heap.size, 0, none⟩) 1 1 [.string ⟨u.toArray⟩, .int .i64 i] rfl (by exact reads_blk (t := 221) (blk_last _ _ _ _ rfl) (by omega) rfl) (by intro u hu; simp at hu; rcases hu with rfl | rfl <;> rfl) (by simp only [maxLen]; omega) (by omega) (by simp; omega) ?_); intro v1 w1 hown1 hg1 hat1; have HOY := Lib.hid hown1; have HBY : Hid (Below w.heap.size w w1) := Lib.hid ((HBZ.out.alloc hszz _).grown hg1 (by simp; omega) (fun k hk => (HOZ.out.lt k hk).1)); clear hown1 hg1 hat1; obtain ⟨av1, cv1, rfl, _⟩ := own_shape HOY.out; have hszy : w.heap.size ≤ w1.heap.size := HBY.out.size)
                go_roundw
                case rel =>
                  refine ⟨j + 1, by omega, by omega, by go_num, ?_, HBY.out⟩
                  have e : (l.drop kk).take (j + 1 - kk) = (l.drop kk).take (j - kk) ++ [(u, i)] := by
                    rw [show j + 1 - kk = (j - kk) + 1 by omega]
                    exact take_snoc_ (by rw [List.getElem?_drop, show kk + (j - kk) = j by omega]; exact HUI.out)
                  rw [e, ← List.append_assoc, entCells_snoc, show k + (j + 1 - kk) = k + (j - kk) + 1 by omega]
                  exact HOY.out
                case measure => simp [intOf]; omega
              · go_wp2_with fail
                go_ret
                have hjn2 : n ≤ j := by omega
                refine ⟨_, rfl, ?_, HBZ.out⟩
                have e : lst ++ (l.drop kk).take (j - kk) = eset l s none := by rw [← HES.out, List.take_of_length_le (by rw [List.length_drop, HN.out]; omega)]
                have e2 : (eset l s none).length = k + (j - kk) := by rw [← e, List.length_append, HLA.out, List.length_take, List.length_drop, HN.out]; omega
                rw [e2, ← e]
                exact HOZ.out
          | some m =>
            have HOO : Hid ((some m : Option Nat) = some m) := Lib.hid rfl
            obtain rfl : z = (m : Int) := HZ.out
            have hmb := HM.out m rfl
            go_wp2_with (at_builtin; go_must (refine wpList_append_any _ rfl (.tmp 33) (.tmp 37) 223 rfl w.heap.size 221 i0 _ 2 24 Tryz.underlying223 hi0 hz0 hz1 hz2 rfl (by omega) _ k _ rfl (HO.out.alloc _) (wr.heap.size + 1) (some ⟨wr.heap.size, 0, none⟩) 1 1 [.string ⟨s.toArray⟩, .int .i64 m] rfl (by exact reads_blk (t := 221) (blk_last _ _ _ _ rfl) (by omega) rfl) (by intro u hu; simp at hu; rcases hu with rfl | rfl <;> rfl) (by simp only [maxLen]; omega) (by omega) (by simp; omega) ?_); intro v1 w1 hown1 hg1 hat1; have HO1 := Lib.hid hown1; have HB1 : Hid (Below w.heap.size w w1) := Lib.hid ((HB.out.alloc hsz _).grown hg1 (by simp; omega) (fun k hk => (HO.out.lt k hk).1)); clear hown1 hg1 hat1; obtain ⟨av1, cv1, rfl, _⟩ := own_shape HO1.out; have hsz1 : w.heap.size ≤ w1.heap.size := HB1.out.size; have y1w : w1.cell? ⟨b, k * 2, none⟩ = some (.string ⟨s.toArray⟩) := (HB1.out.cell hbl).trans X1.out)
            have HOA : Hid (w1.ownsRow w.heap.size 221 2 (.slice av1 (k + 1) cv1) (k + 1) (entCells (l.take k ++ [(s, m)]))) := Lib.hid (by rw [entCells_snoc]; exact HO1.out)
            have HLA : Hid ((l.take k ++ [(s, m)]).length = k + 1) := Lib.hid (by rw [List.length_append, HLT.out]; rfl)
            have HES : Hid ((l.take k ++ [(s, m)]) ++ l.drop (k + 1) = eset l s (some m)) := Lib.hid (by exact (HES0.out (some m)).symm)
            obtain ⟨lst, hlst⟩ : ∃ x, x = (l.take k ++ [(s, m)]) := ⟨_, rfl⟩
            rw [← hlst] at HOA HLA HES
            clear hlst
            obtain ⟨kk, hkk⟩ : ∃ x, x = k + 1 := ⟨_, rfl⟩
            rw [← hkk] at HES
            have hkn : kk ≤ n := by omega
            have hkk2 : k ≤ kk := by omega
            have HKK := Lib.hid hkk
            clear hkk
            have HBW := HB1
            go_loopw [7, 8] (fun v i wz => ∃ j : Nat, kk ≤ j ∧ j ≤ n ∧ i = .int .i64 j ∧ wz.ownsRow w.heap.size 221 2 v (k + 1 + (j - kk)) (entCells (lst ++ (l.drop kk).take (j - kk))) ∧ Below w.heap.size w wz) (fun _ i _ => n - (intOf i).toNat)
            case atStart => exact ⟨kk, Nat.le_refl _, hkn, by first | rfl | (rw [HKK.out]; done) | (rw [HKK.out]; go_num), by rw [Nat.sub_self, List.take_zero, List.append_nil, Nat.add_zero]; exact HOA.out, HBW.out⟩
            case round =>
              obtain ⟨j, hj0, hjn, rfl, hown, hbel⟩ := hrel
              have hszz := hbel.size
              have HOZ := Lib.hid hown
              have HBZ := Lib.hid hbel
              clear hown hbel
              obtain ⟨avz, cvz, rfl, _⟩ := own_shape HOZ.out
              by_cases hjl : j < n
              · obtain ⟨⟨u, i⟩, hui⟩ : ∃ x, l[j]? = some x := ⟨_, List.getElem?_eq_getElem (by rw [HN.out]; exact hjl)⟩
                obtain ⟨b, hbe, hbl, x1, x2⟩ := row_pair HR.out hui HN.out
                cases hbe
                simp only [strV] at x1
                simp only [intZ] at x2
                have z1 : wr.cell? ⟨b, j * 2, none⟩ = some (.string ⟨u.toArray⟩) := (HBZ.out.cell hbl).trans x1
                have z2 : wr.cell? ⟨b, j * 2 + 1, none⟩ = some (.int .i64 i) := (HBZ.out.cell hbl).trans x2
                have HUI := Lib.hid hui
                have hnj : k + 1 + (j - kk) ≤ 2199023255553 := by omega
                clear hui x1 x2
                go_wp2_with (at_builtin; go_must (refine wpList_append_any _ rfl (.tmp 58) (.tmp 63) 223 rfl w.heap.size 221 i0 _ 2 24 Tryz.underlying223 hi0 hz0 hz1 hz2 rfl (by omega) _ (k + 1 + (j - kk)) _ rfl (HOZ.out.alloc _) (wr.heap.size + 1) (some ⟨wr.heap.size, 0, none⟩) 1 1 [.string ⟨u.toArray⟩, .int .i64 i] rfl (by exact reads_blk (t := 221) (blk_last _ _ _ _ rfl) (by omega) rfl) (by intro u hu; simp at hu; rcases hu with rfl | rfl <;> rfl) (by simp only [maxLen]; omega) (by omega) (by simp; omega) ?_); intro v1 w1 hown1 hg1 hat1; have HOY := Lib.hid hown1; have HBY : Hid (Below w.heap.size w w1) := Lib.hid ((HBZ.out.alloc hszz _).grown hg1 (by simp; omega) (fun k hk => (HOZ.out.lt k hk).1)); clear hown1 hg1 hat1; obtain ⟨av1, cv1, rfl, _⟩ := own_shape HOY.out; have hszy : w.heap.size ≤ w1.heap.size := HBY.out.size)
                go_roundw
                case rel =>
                  refine ⟨j + 1, by omega, by omega, by go_num, ?_, HBY.out⟩
                  have e : (l.drop kk).take (j + 1 - kk) = (l.drop kk).take (j - kk) ++ [(u, i)] := by
                    rw [show j + 1 - kk = (j - kk) + 1 by omega]
                    exact take_snoc_ (by rw [List.getElem?_drop, show kk + (j - kk) = j by omega]; exact HUI.out)
                  rw [e, ← List.append_assoc, entCells_snoc, show k + 1 + (j + 1 - kk) = k + 1 + (j - kk) + 1 by omega]
                  exact HOY.out
                case measure => simp [intOf]; omega
              · go_wp2_with fail
                go_ret
                have hjn2 : n ≤ j := by omega
                refine ⟨_, rfl, ?_, HBZ.out⟩
                have e : lst ++ (l.drop kk).take (j - kk) = eset l s (some m) := by rw [← HES.out, List.take_of_length_le (by rw [List.length_drop, HN.out]; omega)]
                have e2 : (eset l s (some m)).length = k + 1 + (j - kk) := by rw [← e, List.length_append, HLA.out, List.length_take, List.length_drop, HN.out]; omega
                rw [e2, ← e]
                exact HOZ.out
        · have hne : (t == s) = false := by simpa using he
          have HNE := Lib.hid he
          have HES0 : Hid (∀ oo, eset l s oo = l.take k ++ (match oo with | none => [] | some i => [(s, i)]) ++ l.drop k) := Lib.hid (fun oo => by unfold eset; rw [← HK0.out, if_neg (by rw [HTI.out]; intro e; injection e with e; exact HNE.out e)])
          clear he
          cases o with
          | none =>
            have HOO : Hid ((none : Option Nat) = none) := Lib.hid rfl
            obtain rfl : z = -1 := HZ.out
            go_wp2_with fail
            have HOA : Hid (wr.ownsRow w.heap.size 221 2 (.slice av k cv) k (entCells (l.take k))) := HO
            have HLA := HLT
            have HES : Hid ((l.take k) ++ l.drop (k) = eset l s none) := Lib.hid (by have q := (HES0.out none).symm; simpa using q)
            obtain ⟨lst, hlst⟩ : ∃ x, x = (l.take k) := ⟨_, rfl⟩
            rw [← hlst] at HOA HLA HES
            clear hlst
            obtain ⟨kk, hkk⟩ : ∃ x, x = k := ⟨_, rfl⟩
            rw [← hkk] at HES
            have hkn : kk ≤ n := by omega
            have hkk2 : k ≤ kk := by omega
            have HKK := Lib.hid hkk
            clear hkk
            have HBW := HB
            go_loopw [7, 8] (fun v i wz => ∃ j : Nat, kk ≤ j ∧ j ≤ n ∧ i = .int .i64 j ∧ wz.ownsRow w.heap.size 221 2 v (k + (j - kk)) (entCells (lst ++ (l.drop kk).take (j - kk))) ∧ Below w.heap.size w wz) (fun _ i _ => n - (intOf i).toNat)
            case atStart => exact ⟨kk, Nat.le_refl _, hkn, by first | rfl | (rw [HKK.out]; done) | (rw [HKK.out]; go_num), by rw [Nat.sub_self, List.take_zero, List.append_nil, Nat.add_zero]; exact HOA.out, HBW.out⟩
            case round =>
              obtain ⟨j, hj0, hjn, rfl, hown, hbel⟩ := hrel
              have hszz := hbel.size
              have HOZ := Lib.hid hown
              have HBZ := Lib.hid hbel
              clear hown hbel
              obtain ⟨avz, cvz, rfl, _⟩ := own_shape HOZ.out
              by_cases hjl : j < n
              · obtain ⟨⟨u, i⟩, hui⟩ : ∃ x, l[j]? = some x := ⟨_, List.getElem?_eq_getElem (by rw [HN.out]; exact hjl)⟩
                obtain ⟨b, hbe, hbl, x1, x2⟩ := row_pair HR.out hui HN.out
                cases hbe
                simp only [strV] at x1
                simp only [intZ] at x2
                have z1 : wr.cell? ⟨b, j * 2, none⟩ = some (.string ⟨u.toArray⟩) := (HBZ.out.cell hbl).trans x1
                have z2 : wr.cell? ⟨b, j * 2 + 1, none⟩ = some (.int .i64 i) := (HBZ.out.cell hbl).trans x2
                have HUI := Lib.hid hui
                have hnj : k + (j - kk) ≤ 2199023255553 := by omega
                clear hui x1 x2
                go_wp2_with (at_builtin; go_must (refine wpList_append_any _ rfl (.tmp 58) (.tmp 63) 223 rfl w.heap.size 221 i0 _ 2 24 Tryz.underlying223 hi0 hz0 hz1 hz2 rfl (by omega) _ (k + (j - kk)) _ rfl (HOZ.out.alloc _) (wr.heap.size + 1) (some ⟨wr.heap.size, 0, none⟩) 1 1 [.string ⟨u.toArray⟩, .int .i64 i] rfl (by exact reads_blk (t := 221) (blk_last _ _ _ _ rfl) (by omega) rfl) (by intro u hu; simp at hu; rcases hu with rfl | rfl <;> rfl) (by simp only [maxLen]; omega) (by omega) (by simp; omega) ?_); intro v1 w1 hown1 hg1 hat1; have HOY := Lib.hid hown1; have HBY : Hid (Below w.heap.size w w1) := Lib.hid ((HBZ.out.alloc hszz _).grown hg1 (by simp; omega) (fun k hk => (HOZ.out.lt k hk).1)); clear hown1 hg1 hat1; obtain ⟨av1, cv1, rfl, _⟩ := own_shape HOY.out; have hszy : w.heap.size ≤ w1.heap.size := HBY.out.size)
                go_roundw
                case rel =>
                  refine ⟨j + 1, by omega, by omega, by go_num, ?_, HBY.out⟩
                  have e : (l.drop kk).take (j + 1 - kk) = (l.drop kk).take (j - kk) ++ [(u, i)] := by
                    rw [show j + 1 - kk = (j - kk) + 1 by omega]
                    exact take_snoc_ (by rw [List.getElem?_drop, show kk + (j - kk) = j by omega]; exact HUI.out)
                  rw [e, ← List.append_assoc, entCells_snoc, show k + (j + 1 - kk) = k + (j - kk) + 1 by omega]
                  exact HOY.out
                case measure => simp [intOf]; omega
              · go_wp2_with fail
                go_ret
                have hjn2 : n ≤ j := by omega
                refine ⟨_, rfl, ?_, HBZ.out⟩
                have e : lst ++ (l.drop kk).take (j - kk) = eset l s none := by rw [← HES.out, List.take_of_length_le (by rw [List.length_drop, HN.out]; omega)]
                have e2 : (eset l s none).length = k + (j - kk) := by rw [← e, List.length_append, HLA.out, List.length_take, List.length_drop, HN.out]; omega
                rw [e2, ← e]
                exact HOZ.out
          | some m =>
            have HOO : Hid ((some m : Option Nat) = some m) := Lib.hid rfl
            obtain rfl : z = (m : Int) := HZ.out
            have hmb := HM.out m rfl
            go_wp2_with (at_builtin; go_must (refine wpList_append_any _ rfl (.tmp 33) (.tmp 37) 223 rfl w.heap.size 221 i0 _ 2 24 Tryz.underlying223 hi0 hz0 hz1 hz2 rfl (by omega) _ k _ rfl (HO.out.alloc _) (wr.heap.size + 1) (some ⟨wr.heap.size, 0, none⟩) 1 1 [.string ⟨s.toArray⟩, .int .i64 m] rfl (by exact reads_blk (t := 221) (blk_last _ _ _ _ rfl) (by omega) rfl) (by intro u hu; simp at hu; rcases hu with rfl | rfl <;> rfl) (by simp only [maxLen]; omega) (by omega) (by simp; omega) ?_); intro v1 w1 hown1 hg1 hat1; have HO1 := Lib.hid hown1; have HB1 : Hid (Below w.heap.size w w1) := Lib.hid ((HB.out.alloc hsz _).grown hg1 (by simp; omega) (fun k hk => (HO.out.lt k hk).1)); clear hown1 hg1 hat1; obtain ⟨av1, cv1, rfl, _⟩ := own_shape HO1.out; have hsz1 : w.heap.size ≤ w1.heap.size := HB1.out.size; have y1w : w1.cell? ⟨b, k * 2, none⟩ = some (.string ⟨t.toArray⟩) := (HB1.out.cell hbl).trans X1.out)
            have HOA : Hid (w1.ownsRow w.heap.size 221 2 (.slice av1 (k + 1) cv1) (k + 1) (entCells (l.take k ++ [(s, m)]))) := Lib.hid (by rw [entCells_snoc]; exact HO1.out)
            have HLA : Hid ((l.take k ++ [(s, m)]).length = k + 1) := Lib.hid (by rw [List.length_append, HLT.out]; rfl)
            have HES : Hid ((l.take k ++ [(s, m)]) ++ l.drop (k) = eset l s (some m)) := Lib.hid (by exact (HES0.out (some m)).symm)
            obtain ⟨lst, hlst⟩ : ∃ x, x = (l.take k ++ [(s, m)]) := ⟨_, rfl⟩
            rw [← hlst] at HOA HLA HES
            clear hlst
            obtain ⟨kk, hkk⟩ : ∃ x, x = k := ⟨_, rfl⟩
            rw [← hkk] at HES
            have hkn : kk ≤ n := by omega
            have hkk2 : k ≤ kk := by omega
            have HKK := Lib.hid hkk
            clear hkk
            have HBW := HB1
            go_loopw [7, 8] (fun v i wz => ∃ j : Nat, kk ≤ j ∧ j ≤ n ∧ i = .int .i64 j ∧ wz.ownsRow w.heap.size 221 2 v (k + 1 + (j - kk)) (entCells (lst ++ (l.drop kk).take (j - kk))) ∧ Below w.heap.size w wz) (fun _ i _ => n - (intOf i).toNat)
            case atStart => exact ⟨kk, Nat.le_refl _, hkn, by first | rfl | (rw [HKK.out]; done) | (rw [HKK.out]; go_num), by rw [Nat.sub_self, List.take_zero, List.append_nil, Nat.add_zero]; exact HOA.out, HBW.out⟩
            case round =>
              obtain ⟨j, hj0, hjn, rfl, hown, hbel⟩ := hrel
              have hszz := hbel.size
              have HOZ := Lib.hid hown
              have HBZ := Lib.hid hbel
              clear hown hbel
              obtain ⟨avz, cvz, rfl, _⟩ := own_shape HOZ.out
              by_cases hjl : j < n
              · obtain ⟨⟨u, i⟩, hui⟩ : ∃ x, l[j]? = some x := ⟨_, List.getElem?_eq_getElem (by rw [HN.out]; exact hjl)⟩
                obtain ⟨b, hbe, hbl, x1, x2⟩ := row_pair HR.out hui HN.out
                cases hbe
                simp only [strV] at x1
                simp only [intZ] at x2
                have z1 : wr.cell? ⟨b, j * 2, none⟩ = some (.string ⟨u.toArray⟩) := (HBZ.out.cell hbl).trans x1
                have z2 : wr.cell? ⟨b, j * 2 + 1, none⟩ = some (.int .i64 i) := (HBZ.out.cell hbl).trans x2
                have HUI := Lib.hid hui
                have hnj : k + 1 + (j - kk) ≤ 2199023255553 := by omega
                clear hui x1 x2
                go_wp2_with (at_builtin; go_must (refine wpList_append_any _ rfl (.tmp 58) (.tmp 63) 223 rfl w.heap.size 221 i0 _ 2 24 Tryz.underlying223 hi0 hz0 hz1 hz2 rfl (by omega) _ (k + 1 + (j - kk)) _ rfl (HOZ.out.alloc _) (wr.heap.size + 1) (some ⟨wr.heap.size, 0, none⟩) 1 1 [.string ⟨u.toArray⟩, .int .i64 i] rfl (by exact reads_blk (t := 221) (blk_last _ _ _ _ rfl) (by omega) rfl) (by intro u hu; simp at hu; rcases hu with rfl | rfl <;> rfl) (by simp only [maxLen]; omega) (by omega) (by simp; omega) ?_); intro v1 w1 hown1 hg1 hat1; have HOY := Lib.hid hown1; have HBY : Hid (Below w.heap.size w w1) := Lib.hid ((HBZ.out.alloc hszz _).grown hg1 (by simp; omega) (fun k hk => (HOZ.out.lt k hk).1)); clear hown1 hg1 hat1; obtain ⟨av1, cv1, rfl, _⟩ := own_shape HOY.out; have hszy : w.heap.size ≤ w1.heap.size := HBY.out.size)
                go_roundw
                case rel =>
                  refine ⟨j + 1, by omega, by omega, by go_num, ?_, HBY.out⟩
                  have e : (l.drop kk).take (j + 1 - kk) = (l.drop kk).take (j - kk) ++ [(u, i)] := by
                    rw [show j + 1 - kk = (j - kk) + 1 by omega]
                    exact take_snoc_ (by rw [List.getElem?_drop, show kk + (j - kk) = j by omega]; exact HUI.out)
                  rw [e, ← List.append_assoc, entCells_snoc, show k + 1 + (j + 1 - kk) = k + 1 + (j - kk) + 1 by omega]
                  exact HOY.out
                case measure => simp [intOf]; omega
              · go_wp2_with fail
                go_ret
                have hjn2 : n ≤ j := by omega
                refine ⟨_, rfl, ?_, HBZ.out⟩
                have e : lst ++ (l.drop kk).take (j - kk) = eset l s (some m) := by rw [← HES.out, List.take_of_length_le (by rw [List.length_drop, HN.out]; omega)]
                have e2 : (eset l s (some m)).length = k + 1 + (j - kk) := by rw [← e, List.length_append, HLA.out, List.length_take, List.length_drop, HN.out]; omega
                rw [e2, ← e]
                exact HOZ.out
      · have hnk : n ≤ k := by omega
        have HES0 : Hid (∀ oo, eset l s oo = l.take k ++ (match oo with | none => [] | some i => [(s, i)]) ++ l.drop k) := Lib.hid (fun oo => by unfold eset; rw [← HK0.out, if_neg (by rw [List.getElem?_eq_none (by rw [HN.out]; exact hnk)]; simp)])
        cases o with
        | none =>
          have HOO : Hid ((none : Option Nat) = none) := Lib.hid rfl
          obtain rfl : z = -1 := HZ.out
          go_wp2_with fail
          have HOA : Hid (wr.ownsRow w.heap.size 221 2 (.slice av k cv) k (entCells (l.take k))) := HO
          have HLA := HLT
          have HES : Hid ((l.take k) ++ l.drop (k) = eset l s none) := Lib.hid (by have q := (HES0.out none).symm; simpa using q)
          obtain ⟨lst, hlst⟩ : ∃ x, x = (l.take k) := ⟨_, rfl⟩
          rw [← hlst] at HOA HLA HES
          clear hlst
          obtain ⟨kk, hkk⟩ : ∃ x, x = k := ⟨_, rfl⟩
          rw [← hkk] at HES
          have hkn : kk ≤ n := by omega
          have hkk2 : k ≤ kk := by omega
          have HKK := Lib.hid hkk
          clear hkk
          have HBW := HB
          go_loopw [7, 8] (fun v i wz => ∃ j : Nat, kk ≤ j ∧ j ≤ n ∧ i = .int .i64 j ∧ wz.ownsRow w.heap.size 221 2 v (k + (j - kk)) (entCells (lst ++ (l.drop kk).take (j - kk))) ∧ Below w.heap.size w wz) (fun _ i _ => n - (intOf i).toNat)
          case atStart => exact ⟨kk, Nat.le_refl _, hkn, by first | rfl | (rw [HKK.out]; done) | (rw [HKK.out]; go_num), by rw [Nat.sub_self, List.take_zero, List.append_nil, Nat.add_zero]; exact HOA.out, HBW.out⟩
          case round =>
            obtain ⟨j, hj0, hjn, rfl, hown, hbel⟩ := hrel
            have hszz := hbel.size
            have HOZ := Lib.hid hown
            have HBZ := Lib.hid hbel
            clear hown hbel
            obtain ⟨avz, cvz, rfl, _⟩ := own_shape HOZ.out
            have hjl : ¬ j < n := by omega
            · go_wp2_with fail
              go_ret
              have hjn2 : n ≤ j := by omega
              refine ⟨_, rfl, ?_, HBZ.out⟩
              have e : lst ++ (l.drop kk).take (j - kk) = eset l s none := by rw [← HES.out, List.take_of_length_le (by rw [List.length_drop, HN.out]; omega)]
              have e2 : (eset l s none).length = k + (j - kk) := by rw [← e, List.length_append, HLA.out, List.length_take, List.length_drop, HN.out]; omega
              rw [e2, ← e]
              exact HOZ.out
        | some m =>
          have HOO : Hid ((some m : Option Nat) = some m) := Lib.hid rfl
          obtain rfl : z = (m : Int) := HZ.out
          have hmb := HM.out m rfl
          go_wp2_with (at_builtin; go_must (refine wpList_append_any _ rfl (.tmp 33) (.tmp 37) 223 rfl w.heap.size 221 i0 _ 2 24 Tryz.underlying223 hi0 hz0 hz1 hz2 rfl (by omega) _ k _ rfl (HO.out.alloc _) (wr.heap.size + 1) (some ⟨wr.heap.size, 0, none⟩) 1 1 [.string ⟨s.toArray⟩, .int .i64 m] rfl (by exact reads_blk (t := 221) (blk_last _ _ _ _ rfl) (by omega) rfl) (by intro u hu; simp at hu; rcases hu with rfl | rfl <;> rfl) (by simp only [maxLen]; omega) (by omega) (by simp; omega) ?_); intro v1 w1 hown1 hg1 hat1; have HO1 := Lib.hid hown1; have HB1 : Hid (Below w.heap.size w w1) := Lib.hid ((HB.out.alloc hsz _).grown hg1 (by simp; omega) (fun k hk => (HO.out.lt k hk).1)); clear hown1 hg1 hat1; obtain ⟨av1, cv1, rfl, _⟩ := own_shape HO1.out; have hsz1 : w.heap.size ≤ w1.heap.size := HB1.out.size)
          have HOA : Hid (w1.ownsRow w.heap.size 221 2 (.slice av1 (k + 1) cv1) (k + 1) (entCells (l.take k ++ [(s, m)]))) := Lib.hid (by rw [entCells_snoc]; exact HO1.out)
          have HLA : Hid ((l.take k ++ [(s, m)]).length = k + 1) := Lib.hid (by rw [List.length_append, HLT.out]; rfl)
          have HES : Hid ((l.take k ++ [(s, m)]) ++ l.drop (k) = eset l s (some m)) := Lib.hid (by exact (HES0.out (some m)).symm)
          obtain ⟨lst, hlst⟩ : ∃ x, x = (l.take k ++ [(s, m)]) := ⟨_, rfl⟩
          rw [← hlst] at HOA HLA HES
          clear hlst
          obtain ⟨kk, hkk⟩ : ∃ x, x = k := ⟨_, rfl⟩
          rw [← hkk] at HES
          have hkn : kk ≤ n := by omega
          have hkk2 : k ≤ kk := by omega
          have HKK := Lib.hid hkk
          clear hkk
          have HBW := HB1
          go_loopw [7, 8] (fun v i wz => ∃ j : Nat, kk ≤ j ∧ j ≤ n ∧ i = .int .i64 j ∧ wz.ownsRow w.heap.size 221 2 v (k + 1 + (j - kk)) (entCells (lst ++ (l.drop kk).take (j - kk))) ∧ Below w.heap.size w wz) (fun _ i _ => n - (intOf i).toNat)
          case atStart => exact ⟨kk, Nat.le_refl _, hkn, by first | rfl | (rw [HKK.out]; done) | (rw [HKK.out]; go_num), by rw [Nat.sub_self, List.take_zero, List.append_nil, Nat.add_zero]; exact HOA.out, HBW.out⟩
          case round =>
            obtain ⟨j, hj0, hjn, rfl, hown, hbel⟩ := hrel
            have hszz := hbel.size
            have HOZ := Lib.hid hown
            have HBZ := Lib.hid hbel
            clear hown hbel
            obtain ⟨avz, cvz, rfl, _⟩ := own_shape HOZ.out
            have hjl : ¬ j < n := by omega
            · go_wp2_with fail
              go_ret
              have hjn2 : n ≤ j := by omega
              refine ⟨_, rfl, ?_, HBZ.out⟩
              have e : lst ++ (l.drop kk).take (j - kk) = eset l s (some m) := by rw [← HES.out, List.take_of_length_le (by rw [List.length_drop, HN.out]; omega)]
              have e2 : (eset l s (some m)).length = k + 1 + (j - kk) := by rw [← e, List.length_append, HLA.out, List.length_take, List.length_drop, HN.out]; omega
              rw [e2, ← e]
              exact HOZ.out
end Go.Proofs.YtcbebefdbdppdaaGreat
namespace Go.Proofs.YtcbebefdbdppdaaGreat
open Go.RowKit Go.Maps
theorem MdAt.same {w : World} {p : Nat} {S T : Drv} {L : MLay} (h : MdAt w p S L) (h1 : T.room = S.room) (h2 : T.bodies = S.bodies) (h3 : T.now = S.now) (h4 : T.kept = S.kept) (h5 : T.pending = S.pending) : MdAt w p T L := by
  obtain ⟨r, u, b, n, k, pd⟩ := S
  obtain ⟨r', u', b', n', k', pd'⟩ := T
  simp only at h1 h2 h3 h4 h5
  subst h1 h2 h3 h4 h5
  exact ⟨h.head, ⟨h.rows.bod, h.rows.ld, h.rows.data, h.rows.now, h.rows.kept, h.rows.chs, h.rows.lc, h.rows.chg⟩⟩
theorem Md.same {w : World} {p : Nat} {S T : Drv} {F : Nat → Prop} (h : Md w p S F) (h1 : T.room = S.room) (h2 : T.bodies = S.bodies) (h3 : T.now = S.now) (h4 : T.kept = S.kept) (h5 : T.pending = S.pending) : Md w p T F := by
  obtain ⟨L, h, hF⟩ := h
  exact ⟨L, h.same h1 h2 h3 h4 h5, hF⟩
end Go.Proofs.YtcbebefdbdppdaaGreat
namespace Go.Proofs.YtcbebefdbdppdaaGreat
open Go.RowKit Go.Maps
theorem nm_size (s : Nm) : (⟨s.toArray⟩ : ByteArray).size = s.length := by simp [ByteArray.size]
theorem nm_data (s : Nm) : (⟨s.toArray⟩ : ByteArray).data.toList = s := by simp
theorem mnamed_nm (s : Nm) (w : World) (hs : s.length ≤ maxLen) :
    Calls Tryz.prog 133 #[.string ⟨s.toArray⟩] w fun e w' => e = .returned (.bool (named s)) ∧ w = w' := by
  have := mnamed_any ⟨s.toArray⟩ w (by rw [nm_size]; exact hs)
  rw [nm_data] at this; exact this
structure MOk (S : Drv) : Prop where
  now : Sound S.now
  kept : Sound S.kept
  snow : size S.now ≤ 1099511627776
  skept : size S.kept ≤ 1099511627776
  pend : S.pending.length ≤ 1099511627776
  nb : S.bodies.length ≤ 1099511627776
  rlt : ∀ s i, dget S.now s = some i → i < S.bodies.length
  len : ∀ i, S.len i ≤ 2147483648
def up (F : Nat → Prop) (w : World) (k : Nat) : Prop := F k ∨ w.heap.size ≤ k
theorem bodCells_snoc (vals : List Value) (bs : List Body) (d : Value) (B : Body) (h : vals.length = bs.length) : bodCells (vals ++ [d]) (bs ++ [B]) = bodCells vals bs ++ [d, intZ (B.safe : Int)] := by
  unfold bodCells
  rw [List.zip_append h, List.flatMap_append]; rfl
theorem MdAt.addBody {w w' : World} {p : Nat} {S : Drv} {L : MLay} {v d : Value} {B : Body} (h : MdAt w p S L)
    (car : ∀ {base size n : Nat} {e : TypeId} {v : Value} {xs : List Value}, w.ownsRow base e size v n xs → e ≠ 226 → e ≠ 229 → w'.ownsRow base e size v n xs)
    (hh : Blk w' p 226 (mhead S { L with vb := v })) (hrow : w'.ownsRow 0 229 2 v (S.bodies.length + 1) (bodCells L.dat S.bodies ++ [d, intZ (B.safe : Int)]))
    (hdat : w'.ownsRow 0 5 1 d B.data.length (B.data.map B8)) : MdAt w' p { S with bodies := S.bodies ++ [B] } { L with vb := v, dat := L.dat ++ [d] } where
  head := hh
  rows := {
    bod := by
      show World.ownsRow _ _ _ _ _ (S.bodies ++ [B]).length (bodCells (L.dat ++ [d]) (S.bodies ++ [B]))
      rw [List.length_append, bodCells_snoc _ _ _ _ h.rows.ld]; exact hrow
    ld := by show (L.dat ++ [d]).length = (S.bodies ++ [B]).length; rw [List.length_append, List.length_append, h.rows.ld]; rfl
    data := fun i hi => by
      have hl : (S.bodies ++ [B]).length = S.bodies.length + 1 := by rw [List.length_append]; rfl
      have hi' : i < S.bodies.length + 1 := by rw [← hl]; exact hi
      by_cases hlt : i < S.bodies.length
      · have e1 : ({ S with bodies := S.bodies ++ [B] } : Drv).body i = S.body i := getD_snoc_lt hlt
        have e2 : ({ L with vb := v, dat := L.dat ++ [d] } : MLay).da i = L.da i := getD_snoc_lt (by rw [h.rows.ld]; exact hlt)
        unfold Drv.len
        rw [e1, e2]
        exact car (h.rows.data i hlt) (by decide) (by decide)
      · obtain rfl : i = S.bodies.length := by omega
        have e1 : ({ S with bodies := S.bodies ++ [B] } : Drv).body S.bodies.length = B := getD_snoc_eq
        have e2 : ({ L with vb := v, dat := L.dat ++ [d] } : MLay).da S.bodies.length = d := by show (L.dat ++ [d]).getD S.bodies.length _ = d; rw [← h.rows.ld]; exact getD_snoc_eq
        unfold Drv.len
        rw [e1, e2]
        exact hdat
    now := car h.rows.now (by decide) (by decide)
    kept := car h.rows.kept (by decide) (by decide)
    chs := car h.rows.chs (by decide) (by decide)
    lc := h.rows.lc
    chg := fun j hj => car (h.rows.chg j hj) (by decide) (by decide) }
end Go.Proofs.YtcbebefdbdppdaaGreat
