/- A drive that was loaded keeps the pure invariant. No program walked.; Values of several cells: read out of a block in one step, written over a whole block in one step; their cells stay out of the walk.; What the walks of LabelReads and LabelWrites share. -/
import Derived.Test.YtdiaihpilniikaaGreatM20
import Derived.Test.YtdiaihpilniikaaGreatM2
import Derived.Laws.CopyRow
import Derived.Test.YtdiaihpilniikaaGreatM25
namespace Go.Proofs.YtdiaihpilniikaaGreat
open Go.RowKit Go.Maps

theorem load_body_lt (S : Drv) (f : File) {i : Nat} (h : i < S.bodies.length) : (S.loadStep f).body i = S.body i := by
  unfold Drv.body Drv.loadStep
  simp only [List.getD, List.getElem?_append_left h]
theorem load_body_eq (S : Drv) (f : File) : (S.loadStep f).body S.bodies.length = ⟨f.2, f.2.length⟩ := by
  unfold Drv.body Drv.loadStep
  simp [List.getD]
theorem load_body_gt (S : Drv) (f : File) {i : Nat} (h : S.bodies.length < i) : (S.loadStep f).body i = ⟨[], 0⟩ := by
  unfold Drv.body Drv.loadStep
  simp only [List.getD]
  rw [List.getElem?_eq_none (by rw [List.length_append]; simp; omega)]; rfl
theorem load_body (S : Drv) (f : File) (i : Nat) : (S.loadStep f).body i = S.body i ∨ (S.loadStep f).body i = ⟨f.2, f.2.length⟩ ∨ (S.loadStep f).body i = ⟨[], 0⟩ := by
  rcases Nat.lt_trichotomy i S.bodies.length with h | h | h
  · exact .inl (load_body_lt S f h)
  · rw [h]; exact .inr (.inl (load_body_eq S f))
  · exact .inr (.inr (load_body_gt S f h))
theorem dget_none_of {D : Dir} {s : Nm} (h : has D (key s) = false) : dget D s = none := by
  unfold dget; rw [atKey_of_not_has h .nil]; rfl
theorem Inv.load {S : Drv} {N : Nat} (h : S.Inv N) (hp : S.pending = []) (hsame : S.kept = S.now) (f : File) (hfit : S.loadFits f = true) (hl : f.2.length ≤ S.room) (hr : (N + 1) * S.room ≤ 1152921504606846976) : (S.loadStep f).Inv (N + 1) := by
  unfold Drv.loadFits at hfit
  simp only [Bool.and_eq_true, Bool.not_eq_true'] at hfit
  obtain ⟨hn, hh⟩ := hfit
  have hnl := named_len hn
  have hg := dget_none_of hh
  have hperm : (refs (S.now.put (key f.1) (num S.bodies.length))).Perm (S.bodies.length :: refs S.now) := by
    refine (refs_put h.tnow f.1 S.bodies.length).trans (List.Perm.cons _ ?_)
    have h1 := refs_del h.tnow f.1
    rw [hg] at h1
    exact h1.symm
  have hnot : S.bodies.length ∉ refs S.now := fun hm => by have := h.rlt _ hm; omega
  have hlen : ∀ i, i < S.bodies.length → (S.loadStep f).len i = S.len i := fun i hi => by unfold Drv.len; rw [load_body_lt S f hi]
  have hs1 : size (S.now.put (key f.1) (num S.bodies.length)) ≤ N + 1 := Nat.le_trans (size_put_le h.tnow f.1 _) (by have := h.snow; omega)
  have hk1 : size (S.kept.put (key f.1) (num S.bodies.length)) ≤ N + 1 := Nat.le_trans (size_put_le h.tkept f.1 _) (by have := h.skept; omega)
  exact {
    tnow := h.tnow.put (isKey _) _
    tkept := h.tkept.put (isKey _) _
    know := h.know.put h.tnow _ _
    kkept := h.kkept.put h.tkept _ _
    nodup := hperm.nodup_iff.2 (List.nodup_cons.2 ⟨hnot, h.nodup⟩)
    rlt := fun i hi => by
      show i < (S.bodies ++ [_]).length
      rw [List.length_append]
      rcases List.mem_cons.1 (hperm.mem_iff.1 hi) with h1 | h1
      · rw [h1]; simp
      · have := h.rlt i h1; simp; omega
    used := by
      have h1 : (S.loadStep f).sum (refs (S.now.put (key f.1) (num S.bodies.length))) = (S.loadStep f).sum (S.bodies.length :: refs S.now) := Drv.sum_perm _ hperm
      have h2 : (S.loadStep f).sum (refs S.now) = S.sum (refs S.now) := Drv.sum_same fun i hi => hlen i (h.rlt i hi)
      have h3 : (S.loadStep f).len S.bodies.length = f.2.length := by unfold Drv.len; rw [load_body_eq]
      have h4 : (S.loadStep f).sum (S.bodies.length :: refs S.now) = (S.loadStep f).len S.bodies.length + (S.loadStep f).sum (refs S.now) := by unfold Drv.sum; rw [List.map_cons, List.sum_cons]
      have h5 := h.used
      show S.used + (f.2.length : Int) = (((S.loadStep f).sum (refs (S.now.put (key f.1) (num S.bodies.length))) : Nat) : Int)
      rw [h1, h4, h3, h2]; omega
    len := fun i => by
      show (S.loadStep f).len i ≤ S.room
      unfold Drv.len
      rcases load_body S f i with h1 | h1 | h1 <;> rw [h1]
      · exact h.len i
      · exact hl
      · exact Nat.zero_le _
    safe := fun i => by
      unfold Drv.len
      rcases load_body S f i with h1 | h1 | h1 <;> rw [h1]
      · exact h.safe i
      · exact Nat.le_refl _
      · exact Nat.le_refl _
    fnow := h.fnow.put h.tnow hnl _
    fkept := h.fkept.put h.tkept hnl _
    snow := hs1
    skept := by
      show size (S.kept.put _ _) + (S.pending.map puts).sum ≤ _
      rw [hp]; exact hk1
    pend := by show S.pending.length ≤ _; rw [hp]; exact Nat.zero_le _
    pok := fun c hc => by have hc' : c ∈ S.pending := hc; rw [hp] at hc'; cases hc'
    room := h.room
    rooms := hr }
end Go.Proofs.YtdiaihpilniikaaGreat
namespace Go.Proofs.YtdiaihpilniikaaGreat
open Go.RowKit Go.Maps

section
variable {P : Program} {w : World}
theorem wpList_load_at {ops : Array Oper} {rest : List Oper} {o : Oper} {a : Act} {Q : Exit → Act → World → Prop} (hgd : o.guard = none) (ty : TypeId) (x : Operand) (ho : o.op = .load ty x)
    (ad : Addr) (hx : a.eval x = .pointer (some ad)) (v : Value) (hrun : (loadVar ty ad).run P w = .ok v w) (h : wpList P ops Q rest (a.put o.dst v) w) : wpList P ops Q (o :: rest) a w :=
  wpList_plain hgd fun _ hK => by
    unfold Oper.wp execOp
    simp only [ho, hx, Instr.loadAt, Instr.sureAddr, Sem.run_bind, Sem.run_pure, Result.andThen_ok, hrun]
    exact hK _ _ h
theorem wpList_store_at {ops : Array Oper} {rest : List Oper} {o : Oper} {a : Act} {Q : Exit → Act → World → Prop} (hgd : o.guard = none) (ty : TypeId) (x y : Operand) (ho : o.op = .store ty x y)
    (ad : Addr) (hx : a.eval x = .pointer (some ad)) (v : Value) (hy : a.eval y = v) (w' : World) (hrun : (storeVar ty ad v).run P w = .ok () w') (h : wpList P ops Q rest (a.put o.dst undef) w') : wpList P ops Q (o :: rest) a w :=
  wpList_plain hgd fun _ hK => by
    unfold Oper.wp execOp
    simp only [ho, hx, hy, Instr.storeAt, Instr.sureAddr, Sem.run_bind, Sem.run_pure, Result.andThen_ok, hrun]
    exact hK _ _ h
/-- The same, behind a guard that lets it by. -/
theorem wpList_load_if {ops : Array Oper} {rest : List Oper} {o : Oper} {a : Act} {Q : Exit → Act → World → Prop} (ty : TypeId) (x : Operand) (ho : o.op = .load ty x) (hgd : Region.wanted o (yielded ops a.tmps) = true)
    (ad : Addr) (hx : a.eval x = .pointer (some ad)) (v : Value) (hrun : (loadVar ty ad).run P w = .ok v w) (h : wpList P ops Q rest (a.put o.dst v) w) : wpList P ops Q (o :: rest) a w :=
  wpList_step fun _ hK => by
    rw [if_pos hgd]
    unfold Oper.wp execOp
    simp only [ho, hx, Instr.loadAt, Instr.sureAddr, Sem.run_bind, Sem.run_pure, Result.andThen_ok, hrun]
    exact hK _ _ h
/-- A struct's value out of a part of a block. -/
theorem run_loadVar_part {g off n : Nat} {t : TypeId} {cs : Array Value} {fs : Array Field} (ty : TypeId) (hg : Blk w g t cs) (hu : P.underlying ty = some (.struct fs)) (hi : (P.info? ty).map (·.size) = some n)
    (xs : List Value) (hl : xs.length = n) (hx : ∀ j v, xs[j]? = some v → cs[off + j]? = some v) : (loadVar ty ⟨g, off, none⟩).run P w = .ok (.agg xs.toArray) w := by
  have hc : (loadCells ⟨g, off, none⟩ xs.length).run P w = .ok xs.toArray w :=
    run_loadCells_list (P := P) w ⟨g, off, none⟩ xs (fun j v hv => by
      have hadd : (⟨g, off, none⟩ : Addr).add j = ⟨g, off + j, none⟩ := by unfold Addr.add; split <;> simp_all
      rw [hadd, hg.cell]; exact hx j v hv)
  cases hq : P.info? ty with
  | none => simp [hq] at hi
  | some i =>
    have hs : i.size = n := by simpa [hq] using hi
    have hagg : (isAgg ty).run P w = .ok true w := by
      unfold isAgg
      rw [Sem.run_bind, run_underlying hu w]
      rfl
    rw [hl] at hc
    simp [loadVar, Sem.run_bind, hagg, sizeOf, typeInfo, hq, hs, hc]
theorem run_loadVar_cells {n : Nat} {fs : Array Field} (ty : TypeId) (a : Addr) (hu : P.underlying ty = some (.struct fs)) (hi : (P.info? ty).map (·.size) = some n) (cs : Array Value) (hl : cs.size = n) (hx : ∀ j v, cs.toList[j]? = some v → w.cell? (a.add j) = some v) : (loadVar ty a).run P w = .ok (.agg cs) w := by
  have hc : (loadCells a cs.toList.length).run P w = .ok cs.toList.toArray w := run_loadCells_list (P := P) w a cs.toList hx
  cases hq : P.info? ty with
  | none => simp [hq] at hi
  | some i =>
    have hs : i.size = n := by simpa [hq] using hi
    have hagg : (isAgg ty).run P w = .ok true w := by
      unfold isAgg
      rw [Sem.run_bind, run_underlying hu w]
      rfl
    rw [Array.length_toList, hl, Array.toArray_toList] at hc
    simp [loadVar, Sem.run_bind, hagg, sizeOf, typeInfo, hq, hs, hc]
theorem run_loadVar_all {g n : Nat} {t : TypeId} {cs : Array Value} {fs : Array Field} (ty : TypeId) (hg : Blk w g t cs) (hu : P.underlying ty = some (.struct fs)) (hi : (P.info? ty).map (·.size) = some n) (hl : cs.size = n) : (loadVar ty ⟨g, 0, none⟩).run P w = .ok (.agg cs) w := by
  have := run_loadVar_part (off := 0) ty hg hu hi cs.toList (by simpa using hl) (fun j v h => by simpa using h)
  simpa using this
theorem run_loadVar_mid {g off n : Nat} {t : TypeId} {pre xs post : List Value} {fs : Array Field} (ty : TypeId) (hg : Blk w g t (pre ++ xs ++ post).toArray) (hu : P.underlying ty = some (.struct fs)) (hi : (P.info? ty).map (·.size) = some n) (hp : pre.length = off) (hl : xs.length = n) : (loadVar ty ⟨g, off, none⟩).run P w = .ok (.agg xs.toArray) w := by
  refine run_loadVar_part ty hg hu hi xs hl fun j v h => ?_
  obtain ⟨hj, _⟩ := List.getElem?_eq_some_iff.1 h
  rw [List.getElem?_toArray, List.append_assoc, List.getElem?_append_right (by omega), List.getElem?_append_left (by omega), show off + j - pre.length = j by omega]
  exact h
/-- A struct's value written over a whole block. -/
theorem run_storeVar_whole {g : Nat} {t : TypeId} {cur vs : Array Value} (ty : TypeId) (hg : Blk w g t cur) (hi : (P.info? ty).map (·.size) = some vs.size) (hs : vs.size = cur.size) (h1 : ∀ v ∈ vs.toList, v.oneCell' = true) :
    ∃ w', (storeVar ty ⟨g, 0, none⟩ (.agg vs)).run P w = .ok () w' ∧ Blk w' g t vs ∧ Touch (· = g) w w' ∧ w'.heap.size = w.heap.size := by
  have hst := run_storeCells_at P g 0 t vs.toList 0 cur w hg (by simp; omega) h1
  have hd : cur.toList.drop vs.toList.length = [] := List.drop_of_length_le (by simp; omega)
  simp only [Nat.zero_add, List.take_zero, List.nil_append, hd, List.append_nil, Array.toArray_toList] at hst
  refine ⟨w.setRow g vs, ?_, setRow_heap w g cur _ _ _ hg, ⟨rfl, rfl, rfl, by simp [World.setRow], fun k _ hk => setRow_other w g k _ hk⟩, by simp [World.setRow]⟩
  cases hq : P.info? ty with
  | none => simp [hq] at hi
  | some i =>
    have hz : i.size = vs.size := by simpa [hq] using hi
    have hcs : (Value.agg vs).cells = vs := rfl
    simp [storeVar, hcs, sizeOf, typeInfo, hq, hz, hst]
end
end Go.Proofs.YtdiaihpilniikaaGreat
namespace Go.Proofs.YtdiaihpilniikaaGreat
open Go.RowKit Go.Maps

theorem stand_inv (hs : Bool) (bs : List UInt8) (h : bs.length ≤ 1048576) : (standDrv hs bs).Inv 1 := by
  unfold standDrv
  cases hs with
  | false => exact Drv.new_inv 1048576 1 (by decide) (by decide)
  | true => exact Inv.load (N := 0) (Drv.new_inv 1048576 0 (by decide) (by decide)) rfl rfl ([108], bs) rfl h (by decide)
theorem stand_room (hs : Bool) (bs : List UInt8) : (standDrv hs bs).room = 1048576 := by
  unfold standDrv
  cases hs <;> rfl
/-- The wound behind Arm and Offline. -/
def armed (l : List (Int × Int)) (aw : Bool) : Wnd := { Wnd.new.arm l with away := aw }
theorem armed_okn (l : List (Int × Int)) (aw : Bool) (h : l.length ≤ 8796093021952) : (armed l aw).Okn 0 := ((Wnd.Okn.new.arm l h).away aw)
theorem standSize : (Tryz.prog.info? 30).map (·.size) = some 17 := by kernel_rfl
theorem labSize : (Tryz.prog.info? 27).map (·.size) = some 13 := by kernel_rfl
theorem labCells_size (l : Lab) (h : l.st.length = 8) : (labCells l).size = 13 := by unfold labCells; simp [h]
theorem labCells_one (l : Lab) : ∀ v ∈ (labCells l).toList, v.oneCell' = true := by
  intro v hv
  unfold labCells at hv
  simp only [List.mem_append, List.mem_map, List.mem_cons, List.not_mem_nil, or_false] at hv
  rcases hv with ⟨b, _, rfl⟩ | rfl | rfl | rfl | rfl | rfl <;> rfl
theorem load_lab {w : World} {g : Nat} {t : TypeId} (l : Lab) (hl : l.st.length = 8) (hb : Blk w g t (labCells l)) : (loadVar 27 ⟨g, 0, none⟩).run Tryz.prog w = .ok (labV l) w :=
  run_loadVar_all 27 hb Tryz.underlying27 labSize (labCells_size l hl)
theorem store_lab {w : World} {g : Nat} {t : TypeId} {cur : Array Value} (l : Lab) (hl : l.st.length = 8) (hb : Blk w g t cur) (hc : cur.size = 13) :
    ∃ w', (storeVar 27 ⟨g, 0, none⟩ (labV l)).run Tryz.prog w = .ok () w' ∧ Blk w' g t (labCells l) ∧ Touch (· = g) w w' ∧ w'.heap.size = w.heap.size :=
  run_storeVar_whole 27 hb (by rw [labSize, labCells_size l hl]) (by rw [labCells_size l hl, hc]) (labCells_one l)
theorem load_stand {w : World} {g : Nat} {cs : Array Value} (hb : Blk w g 30 cs) (hc : cs.size = 17) : (loadVar 30 ⟨g, 0, none⟩).run Tryz.prog w = .ok (.agg cs) w :=
  run_loadVar_all 30 hb Tryz.underlying30 standSize hc
theorem load_mine {w : World} {g : Nat} (l : Lab) (hl : l.st.length = 8) (v0 v1 v2 v3 : Value) (hb : Blk w g 30 ([v0, v1] ++ (labCells l).toList ++ [v2, v3]).toArray) : (loadVar 27 ⟨g, 2, none⟩).run Tryz.prog w = .ok (labV l) w := by
  have h := run_loadVar_mid (P := Tryz.prog) 27 hb Tryz.underlying27 labSize rfl (by rw [Array.length_toList, labCells_size l hl])
  rw [Array.toArray_toList] at h
  exact h
end Go.Proofs.YtdiaihpilniikaaGreat
