/- The document's disk, walked: Struck, Rest, Power.; The document's drive, walked: a loss of power.; What the document's drive leads to is there, over every call: bounds, beside the program's invariant. No program in sight. -/
import Derived.Test.YtdmcjomcbhdcbaaGreatM28
import Derived.Deep.DeepCutAuto
namespace Go.Proofs.YtdmcjomcbhdcbaaGreat
open Go.RowKit Go.Maps

set_option maxRecDepth 100000 in
set_option maxHeartbeats 4000000 in
theorem dstruck_any (q p : Nat) (X : Wnd) (S : Drv) (F : Nat → Prop) (w : World) (hd : DK w q p X S F) :
    Calls Tryz.prog 52 #[.pointer (some ⟨q, 0, none⟩)] w fun e w' => e = .returned (.bool X.lit) ∧ Below w.heap.size w w' := by
  obtain ⟨g, hg, _, _, _⟩ := hd.gate
  have HS := Lib.hid (gstruck_any g w)
  rw [hg.of.struck] at HS
  obtain ⟨gd, ga, gpa, gpn, gpc, gk, gr, gl, gR, gC, gI⟩ := g
  obtain ⟨gof, c1, c2, c3, c4, c5, c6, c7, c8, c9, gf, hq⟩ := hg
  simp only at c1 c2 c3 c4 c5 c6 c7 c8 c9
  unfold gcells at HS
  simp only at HS
  clear gof hd
  go_enter Tryz.func52, Tryz.ntmps52
  go_wp2_with (go_at_call 80; refine HS.out.mono ?_; rintro e w2 ⟨rfl, hb⟩; have HB := Lib.hid hb; clear hb)
  go_ret
  exact ⟨rfl, HB.out⟩
set_option maxRecDepth 100000 in
set_option maxHeartbeats 4000000 in
theorem drest_any (q p : Nat) (X : Wnd) (S : Drv) (F : Nat → Prop) (off : Bool) (w : World) (hd : DK w q p X S F) (hX : X.Ok) :
    Calls Tryz.prog 94 #[.pointer (some ⟨q, 0, none⟩), .bool off] w fun e w' => e = .returned (.tuple #[]) ∧ DK w' q p (X.rest off) S (grow F w w') ∧ Touch F w w' := by
  obtain ⟨g, hg, _, _, hgo⟩ := hd.gate
  have HGO := Lib.hid hgo
  have HGI := Lib.hid hg
  have HS := Lib.hid (grest_any g off w (hg.of.round hX))
  obtain ⟨g', hg'⟩ : ∃ g' : GCells, g' = g.rest off := ⟨_, rfl⟩
  have HOF : Hid (GateOf (X.rest off) g' ∧ g'.pa = g.pa ∧ g'.pn = g.pn ∧ g'.pc = g.pc) := Lib.hid (by rw [hg']; exact ⟨hg.of.rest off, rfl, rfl, rfl⟩)
  rw [← hg'] at HS
  obtain ⟨gd, ga, gpa, gpn, gpc, gk, gr, gl, gR, gC, gI⟩ := g
  obtain ⟨xd, xa, xpa, xpn, xpc, xk, xr, xl, xR, xC, xI⟩ := g'
  obtain ⟨gof, c1, c2, c3, c4, c5, c6, c7, c8, c9, gf, hq⟩ := hg
  simp only at c1 c2 c3 c4 c5 c6 c7 c8 c9
  unfold gcells at HS
  simp only at HS
  clear gof hd hgo hg' hX
  go_enter Tryz.func94, Tryz.ntmps94
  go_wp2_with (go_at_call 112; refine HS.out.mono ?_; rintro e w2 ⟨rfl, hb⟩; have d1 : w2.cell? ⟨q, 1, none⟩ = some (.bool gd) := (hb.cell (p := ⟨q, 1, none⟩) hq).trans HGI.out.c1; have d2 : w2.cell? ⟨q, 2, none⟩ = some (.bool ga) := (hb.cell (p := ⟨q, 2, none⟩) hq).trans HGI.out.c2; have d3 : w2.cell? ⟨q, 3, none⟩ = some (.slice gpa gpn gpc) := (hb.cell (p := ⟨q, 3, none⟩) hq).trans HGI.out.c3; have d4 : w2.cell? ⟨q, 4, none⟩ = some (.int .i64 gk) := (hb.cell (p := ⟨q, 4, none⟩) hq).trans HGI.out.c4; have d5 : w2.cell? ⟨q, 5, none⟩ = some (.int .i64 gr) := (hb.cell (p := ⟨q, 5, none⟩) hq).trans HGI.out.c5; have d6 : w2.cell? ⟨q, 6, none⟩ = some (.bool gl) := (hb.cell (p := ⟨q, 6, none⟩) hq).trans HGI.out.c6; have d7 : w2.cell? ⟨q, 7, none⟩ = some (.int .i64 gR) := (hb.cell (p := ⟨q, 7, none⟩) hq).trans HGI.out.c7; have d8 : w2.cell? ⟨q, 8, none⟩ = some (.int .i64 gC) := (hb.cell (p := ⟨q, 8, none⟩) hq).trans HGI.out.c8; have d9 : w2.cell? ⟨q, 9, none⟩ = some (.int .i64 gI) := (hb.cell (p := ⟨q, 9, none⟩) hq).trans HGI.out.c9; have df : (∀ j, w2.frozen? ⟨q, j, none⟩ = false) := (fun j => (by rw [World.frozen?_of_block (hb.block q hq)]; exact gf j)); have hq2 : q < w2.heap.size := (Nat.lt_of_lt_of_le hq hb.size); have HB := Lib.hid hb; clear hb)
  refine exit_world fun Z hZ => ?_
  have hZe : Z = setG w2 q ⟨xd, xa, xpa, xpn, xpc, xk, xr, xl, xR, xC, xI⟩ := by rw [hZ]; rfl
  have HEND := Lib.hid (HGO.out w2 ⟨xd, xa, xpa, xpn, xpc, xk, xr, xl, xR, xC, xI⟩ (X.rest off) HB.out HOF.out.1 (.inr ⟨HOF.out.2.1, HOF.out.2.2.1, HOF.out.2.2.2, rfl⟩))
  rw [← hZe] at HEND
  clear hZ hZe d1 d2 d3 d4 d5 d6 d7 d8 d9
  go_end0
  exact ⟨rfl, HEND.out.1, HEND.out.2⟩
set_option maxRecDepth 100000 in
set_option maxHeartbeats 4000000 in
theorem dpower_any (q p : Nat) (X : Wnd) (S : Drv) (F : Nat → Prop) (on : Bool) (w : World) (hd : DK w q p X S F) :
    Calls Tryz.prog 95 #[.pointer (some ⟨q, 0, none⟩), .bool on] w fun e w' => e = .returned (.tuple #[]) ∧ DK w' q p { X with down := !on } S (grow F w w') ∧ Touch F w w' := by
  obtain ⟨g, hg, _, _, hgo⟩ := hd.gate
  have HGO := Lib.hid hgo
  have HGI := Lib.hid hg
  have HS := Lib.hid (gpower_any g on w)
  obtain ⟨g', hg'⟩ : ∃ g' : GCells, g' = { g with d := !on } := ⟨_, rfl⟩
  have HOF : Hid (GateOf { X with down := !on } g' ∧ g'.pa = g.pa ∧ g'.pn = g.pn ∧ g'.pc = g.pc) := Lib.hid (by rw [hg']; exact ⟨hg.of.power on, rfl, rfl, rfl⟩)
  rw [← hg'] at HS
  obtain ⟨gd, ga, gpa, gpn, gpc, gk, gr, gl, gR, gC, gI⟩ := g
  obtain ⟨xd, xa, xpa, xpn, xpc, xk, xr, xl, xR, xC, xI⟩ := g'
  obtain ⟨gof, c1, c2, c3, c4, c5, c6, c7, c8, c9, gf, hq⟩ := hg
  simp only at c1 c2 c3 c4 c5 c6 c7 c8 c9
  unfold gcells at HS
  simp only at HS
  clear gof hd hgo hg' 
  go_enter Tryz.func95, Tryz.ntmps95
  go_wp2_with (go_at_call 113; refine HS.out.mono ?_; rintro e w2 ⟨rfl, hb⟩; have d1 : w2.cell? ⟨q, 1, none⟩ = some (.bool gd) := (hb.cell (p := ⟨q, 1, none⟩) hq).trans HGI.out.c1; have d2 : w2.cell? ⟨q, 2, none⟩ = some (.bool ga) := (hb.cell (p := ⟨q, 2, none⟩) hq).trans HGI.out.c2; have d3 : w2.cell? ⟨q, 3, none⟩ = some (.slice gpa gpn gpc) := (hb.cell (p := ⟨q, 3, none⟩) hq).trans HGI.out.c3; have d4 : w2.cell? ⟨q, 4, none⟩ = some (.int .i64 gk) := (hb.cell (p := ⟨q, 4, none⟩) hq).trans HGI.out.c4; have d5 : w2.cell? ⟨q, 5, none⟩ = some (.int .i64 gr) := (hb.cell (p := ⟨q, 5, none⟩) hq).trans HGI.out.c5; have d6 : w2.cell? ⟨q, 6, none⟩ = some (.bool gl) := (hb.cell (p := ⟨q, 6, none⟩) hq).trans HGI.out.c6; have d7 : w2.cell? ⟨q, 7, none⟩ = some (.int .i64 gR) := (hb.cell (p := ⟨q, 7, none⟩) hq).trans HGI.out.c7; have d8 : w2.cell? ⟨q, 8, none⟩ = some (.int .i64 gC) := (hb.cell (p := ⟨q, 8, none⟩) hq).trans HGI.out.c8; have d9 : w2.cell? ⟨q, 9, none⟩ = some (.int .i64 gI) := (hb.cell (p := ⟨q, 9, none⟩) hq).trans HGI.out.c9; have df : (∀ j, w2.frozen? ⟨q, j, none⟩ = false) := (fun j => (by rw [World.frozen?_of_block (hb.block q hq)]; exact gf j)); have hq2 : q < w2.heap.size := (Nat.lt_of_lt_of_le hq hb.size); have HB := Lib.hid hb; clear hb)
  refine exit_world fun Z hZ => ?_
  have hZe : Z = setG w2 q ⟨xd, xa, xpa, xpn, xpc, xk, xr, xl, xR, xC, xI⟩ := by rw [hZ]; rfl
  have HEND := Lib.hid (HGO.out w2 ⟨xd, xa, xpa, xpn, xpc, xk, xr, xl, xR, xC, xI⟩ { X with down := !on } HB.out HOF.out.1 (.inr ⟨HOF.out.2.1, HOF.out.2.2.1, HOF.out.2.2.2, rfl⟩))
  rw [← hZe] at HEND
  clear hZ hZe d1 d2 d3 d4 d5 d6 d7 d8 d9
  go_end0
  exact ⟨rfl, HEND.out.1, HEND.out.2⟩
end Go.Proofs.YtdmcjomcbhdcbaaGreat
namespace Go.Proofs.YtdmcjomcbhdcbaaGreat
open Go.RowKit Go.Maps

/-- What the model's drive leads to, beside what Inv says. -/
structure Drv.Refs (S : Drv) : Prop where
  nb : S.bodies.length ≤ 1099511627776
  kept : ∀ s i, dget S.kept s = some i → i < S.bodies.length
  pend : ∀ c ∈ S.pending, ∀ x ∈ c, ∀ i, x.2 = some i → i < S.bodies.length

theorem applyStp_refs {D : Dir} {n : Nat} (hT : Tidy D) (h : ∀ s i, dget D s = some i → i < n) (x : Stp) (hx : ∀ i, x.2 = some i → i < n) : ∀ s i, dget (applyStp D x) s = some i → i < n := by
  intro s i hs
  obtain ⟨nm, o⟩ := x
  cases o with
  | none =>
    unfold applyStp at hs
    simp only at hs
    by_cases e : s = nm
    · subst e; rw [dget_del_same] at hs; cases hs
    · rw [dget_del_other e] at hs; exact h s i hs
  | some k =>
    unfold applyStp at hs
    simp only at hs
    by_cases e : s = nm
    · subst e; rw [dget_put_same hT.isMap] at hs; injection hs with hs; subst hs; exact hx k rfl
    · rw [dget_put_other e] at hs; exact h s i hs
theorem applyC_refs : ∀ (c : List Stp) {D : Dir} {n : Nat}, Tidy D → (∀ s i, dget D s = some i → i < n) → (∀ x ∈ c, ∀ i, x.2 = some i → i < n) → ∀ s i, dget (applyC D c) s = some i → i < n
  | [], D, n, _, h, _ => h
  | x :: c, D, n, hT, h, hc => by
    have hT2 : Tidy (applyStp D x) := (applyC_tidy [x] hT).1
    exact applyC_refs c hT2 (applyStp_refs hT h x (hc x List.mem_cons_self)) (fun y hy => hc y (List.mem_cons_of_mem _ hy))
theorem crashK_refs {S : Drv} {N : Nat} (h : S.Inv N) (hr : S.Refs) (dirs : List Bool) : ∀ k, k ≤ S.pending.length → ∀ s i, dget (S.crashK dirs k) s = some i → i < S.bodies.length
  | 0, _ => hr.kept
  | k + 1, hl => by
    have ih := crashK_refs h hr dirs k (by omega)
    obtain ⟨_, h2, _, _⟩ := crashK_facts h dirs k (by omega)
    unfold Drv.crashK
    split
    · exact applyC_refs _ h2 ih (hr.pend _ (getD_mem _ (by omega)))
    · exact ih

/-- The entries behind a loss of power. -/
def crEnts (D : Dir) (j : Nat) : List Ent := (List.range j).map fun i => ((dnames D).getD i [], i)
theorem crEnts_length (D : Dir) (j : Nat) : (crEnts D j).length = j := by unfold crEnts; simp
theorem crEnts_succ (D : Dir) (j : Nat) : crEnts D (j + 1) = crEnts D j ++ [((dnames D).getD j [], j)] := by unfold crEnts; rw [List.range_succ, List.map_append]; rfl
theorem crEnts_ents {D : Dir} (hs : Sound D) : ∀ k, k ≤ (dnames D).length → Ents (Drv.crashDir D k) (crEnts D k)
  | 0, _ => ents_empty
  | k + 1, hl => by
    have ih := crEnts_ents hs k (by omega)
    have hT := (crashDir_facts hs.keys hs.tidy hs.full k (by omega)).1
    rw [crEnts_succ]
    refine ih.snoc hT ?_ k
    intro e he
    unfold crEnts at he
    obtain ⟨i, hi, rfl⟩ := List.mem_map.1 he
    have hik : i < k := List.mem_range.1 hi
    have hr := dnames_rise hs
    have h1 := List.pairwise_iff_getElem.1 hr i k (by omega) (by omega) hik
    simp only [List.getD, List.getElem?_eq_getElem (show i < (dnames D).length by omega), List.getElem?_eq_getElem (show k < (dnames D).length by omega), Option.getD_some]
    exact h1
theorem crEnts_dents {D : Dir} (hs : Sound D) : crEnts D (dnames D).length = dents (Drv.crashDir D (dnames D).length) := by
  obtain ⟨h1, h2, h3, _⟩ := crashDir_facts hs.keys hs.tidy hs.full (dnames D).length (Nat.le_refl _)
  exact (crEnts_ents hs _ (Nat.le_refl _)).dents ⟨h1, h2, h3⟩
theorem crash_size {D : Dir} (hs : Sound D) : (dents (Drv.crashDir D (dnames D).length)).length = (dnames D).length := by rw [← crEnts_dents hs, crEnts_length]

/-- The new rows, behind j files. -/
structure CrJ (B : Nat) (S : Drv) (D : Dir) (cuts : List Int) (w : World) (vb vn : Value) (j : Nat) (dat : List Value) : Prop where
  ld : dat.length = j
  bod : w.ownsRow B 161 2 vb j (bodCells dat ((List.range j).map (S.crashBody D cuts)))
  data : ∀ i, i < j → w.ownsRow B 5 1 (dat.getD i (.slice none 0 0)) (S.crashBody D cuts i).data.length ((S.crashBody D cuts i).data.map B8)
  ent : w.ownsRow B 153 2 vn j (entCells (crEnts D j))
theorem CrJ.below {B : Nat} {S : Drv} {D : Dir} {cuts : List Int} {w w1 : World} {vb vn : Value} {j : Nat} {dat : List Value} (h : CrJ B S D cuts w vb vn j dat) (hb : Below w.heap.size w w1) : CrJ B S D cuts w1 vb vn j dat :=
  ⟨h.ld, ownsRow_below h.bod hb, fun i hi => ownsRow_below (h.data i hi) hb, ownsRow_below h.ent hb⟩
theorem CrJ.zero (B : Nat) (S : Drv) (D : Dir) (cuts : List Int) (w : World) : CrJ B S D cuts w (.slice none 0 0) (.slice none 0 0) 0 [] :=
  ⟨rfl, World.ownsRow_nil _ _ _ _, fun i hi => absurd hi (by omega), World.ownsRow_nil _ _ _ _⟩

/-- A drive as a loss of power leaves it, in memory. -/
theorem crash_md {w0 w w' : World} {p B : Nat} {S : Drv} {N : Nat} {L : MLay} {F : Nat → Prop} {dirs : List Bool} {cuts : List Int} {D : Dir} {vb vn : Value} {m : Nat} {dat : List Value} (hI : S.Inv N) (hD : D = S.crashK dirs S.pending.length) (hm : m = (dnames D).length) (hB : w0.heap.size ≤ B)
    (h : MdAt w p S L) (hc : CrJ B S D cuts w vb vn m dat) (hF : F p) (hb : Below w0.heap.size w0 w) (hw' : w' = (((w.setCell ⟨p, 1, none⟩ vb).setCell ⟨p, 2, none⟩ vn).setCell ⟨p, 3, none⟩ vn).setCell ⟨p, 4, none⟩ (.slice none 0 0)) :
    Md w' p (S.crash dirs cuts) (grow F w0 w') ∧ Touch F w0 w' := by
  obtain ⟨f1, f2, f3, _⟩ := crashK_facts hI dirs S.pending.length (Nat.le_refl _)
  rw [← hD] at f1 f2 f3
  have hs : Sound D := ⟨f2, f3, f1⟩
  have b1 := h.head.set_ 1 vb
  have b2 := b1.set_ 2 vn
  have b3 := b2.set_ 3 vn
  have b4 := b3.set_ 4 (.slice none 0 0)
  have car : ∀ {base size n : Nat} {e : TypeId} {v : Value} {xs : List Value}, w.ownsRow base e size v n xs → e ≠ 158 → w'.ownsRow base e size v n xs := fun h1 h2 => by
    rw [hw']; exact row_set (row_set (row_set (row_set h1 h.head h2 1 _) b1 h2 2 _) b2 h2 3 _) b3 h2 4 _
  have hsz : w'.heap.size = w.heap.size := by rw [hw']; simp only [size_set']
  have hcr : S.crash dirs cuts = S.crashAt D cuts m := by unfold Drv.crash; rw [← hD, ← hm]
  have hdl : (dents (S.crash dirs cuts).now).length = m := by rw [hcr]; show (dents (Drv.crashDir D m)).length = m; rw [hm]; exact crash_size hs
  have hde : dents (S.crash dirs cuts).now = crEnts D m := by rw [hcr]; show dents (Drv.crashDir D m) = _; rw [hm]; exact (crEnts_dents hs).symm
  have hT : Touch F w0 w' := by
    rw [hw']
    exact ((((Touch.of_below hb).then_ (Touch.setCell _ _ _ hF)).then_ (Touch.setCell _ _ _ hF)).then_ (Touch.setCell _ _ _ hF)).then_ (Touch.setCell _ _ _ hF)
  refine ⟨⟨⟨vb, vn, vn, .slice none 0 0, dat, []⟩, ⟨?_, ?_⟩, ?_⟩, hT⟩
  · rw [hw']
    have := b4
    unfold mhead at this ⊢
    rw [hcr]
    exact this
  · exact {
      bod := by rw [hcr]; show World.ownsRow _ _ _ _ vb ((List.range m).map _).length (bodCells dat ((List.range m).map _)); rw [List.length_map, List.length_range]; exact ownsRow_base_a (car hc.bod (by decide)) (Nat.zero_le _)
      ld := by rw [hcr]; show dat.length = ((List.range m).map _).length; rw [List.length_map, List.length_range]; exact hc.ld
      data := fun i hi => by
        rw [hcr] at hi ⊢
        have hi' : i < m := by have e : (S.crashAt D cuts m).bodies.length = m := by { show ((List.range m).map _).length = m; simp }; omega
        have e : (S.crashAt D cuts m).body i = S.crashBody D cuts i := by unfold Drv.body Drv.crashAt; simp [List.getD, hi']
        unfold Drv.len
        rw [e]
        exact ownsRow_base_a (car (hc.data i hi') (by decide)) (Nat.zero_le _)
      now := by rw [hde, crEnts_length]; exact ownsRow_base_a (car hc.ent (by decide)) (Nat.zero_le _)
      kept := by have e : (S.crash dirs cuts).kept = (S.crash dirs cuts).now := rfl; rw [e, hde, crEnts_length]; exact ownsRow_base_a (car hc.ent (by decide)) (Nat.zero_le _)
      chs := World.ownsRow_nil _ _ _ _
      lc := rfl
      chg := fun j hj => absurd hj (by rw [hcr]; simp [Drv.crashAt]) }
  · have hin : ∀ {e : TypeId} {s n : Nat} {v : Value} {xs : List Value}, w.ownsRow B e s v n xs → ∀ k, v.ownBlock = some k → grow F w0 w' k := fun h1 k hk => .inr (by have := h1.lt k hk; omega)
    rintro k (hk | hk | hk | hk | hk | ⟨v, hv, hk⟩ | ⟨v, hv, hk⟩)
    · rw [hk]; exact .inl hF
    · exact hin hc.bod k hk
    · exact hin hc.ent k hk
    · exact hin hc.ent k hk
    · simp [Value.ownBlock] at hk
    · obtain ⟨i, hi, rfl⟩ := List.getElem_of_mem hv
      have h1 := hc.data i (by rw [← hc.ld]; exact hi)
      have e1 : dat.getD i (.slice none 0 0) = dat[i] := by simp [List.getD, hi]
      rw [e1] at h1
      exact hin h1 k hk
    · cases hv
end Go.Proofs.YtdmcjomcbhdcbaaGreat
namespace Go.Proofs.YtdmcjomcbhdcbaaGreat
open Go.RowKit Go.Maps

/-- Bodies are counted; what is kept and what is pending leads to bodies that are there. -/
structure Drv.RefsN (S : Drv) (N : Nat) : Prop where
  nb : S.bodies.length ≤ N
  kept : ∀ s i, dget S.kept s = some i → i < S.bodies.length
  pend : ∀ c ∈ S.pending, ∀ x ∈ c, ∀ i, x.2 = some i → i < S.bodies.length
theorem Drv.RefsN.refs {S : Drv} {N : Nat} (h : S.RefsN N) (hN : N ≤ 1099511627776) : S.Refs := ⟨Nat.le_trans h.nb hN, h.kept, h.pend⟩
theorem Drv.RefsN.mono {S : Drv} {N M : Nat} (h : S.RefsN N) (hM : N ≤ M) : S.RefsN M := ⟨Nat.le_trans h.nb hM, h.kept, h.pend⟩
theorem chAll_three (S : Drv) (c : List Stp) : (S.chAll c).bodies = S.bodies ∧ (S.chAll c).kept = S.kept ∧ (S.chAll c).pending = S.pending := by
  induction c generalizing S with
  | nil => exact ⟨rfl, rfl, rfl⟩
  | cons s r ih => obtain ⟨a, b, c⟩ := ih (S.chStp s); exact ⟨a, b, c⟩
theorem Drv.change_refs {S : Drv} {N : Nat} (h : S.RefsN N) (c : List Stp) (hc : ∀ x ∈ c, ∀ i, x.2 = some i → i < S.bodies.length) : (S.change c).RefsN N := by
  obtain ⟨e1, e2, e3⟩ := chAll_three S c
  refine ⟨?_, fun s i hs => ?_, fun d hd x hx i hi => ?_⟩
  · show (S.chAll c).bodies.length ≤ N; rw [e1]; exact h.nb
  · show i < (S.chAll c).bodies.length; rw [e1]; have hs' : dget (S.chAll c).kept s = some i := hs; rw [e2] at hs'; exact h.kept s i hs'
  · show i < (S.chAll c).bodies.length
    rw [e1]
    have hd' : d ∈ (S.chAll c).pending ++ [c] := hd
    rw [e3] at hd'
    rcases List.mem_append.1 hd' with hd' | hd'
    · exact h.pend d hd' x hx i hi
    · rw [List.mem_singleton] at hd'; subst hd'; exact hc x hx i hi
theorem Drv.setBody_refs {S : Drv} {N : Nat} (h : S.RefsN N) (i : Nat) (B : Body) : (S.setBody i B).RefsN N := by
  have e : (S.setBody i B).bodies.length = S.bodies.length := Drv.setBody_length S i B
  exact ⟨by rw [e]; exact h.nb, fun s k hs => by rw [e]; exact h.kept s k hs, fun c hc x hx k hk => by rw [e]; exact h.pend c hc x hx k hk⟩
theorem Drv.RefsN.same {S T : Drv} {N : Nat} (h : S.RefsN N) (h1 : T.bodies.length = S.bodies.length) (h2 : T.kept = S.kept) (h3 : T.pending = S.pending) : T.RefsN N :=
  ⟨by rw [h1]; exact h.nb, fun s k hs => by rw [h1]; rw [h2] at hs; exact h.kept s k hs, fun c hc x hx k hk => by rw [h1]; rw [h3] at hc; exact h.pend c hc x hx k hk⟩
theorem Drv.create_refs {S : Drv} {N : Nat} (h : S.RefsN N) (s : Nm) : (S.create s).1.RefsN (N + 1) := by
  unfold Drv.create
  split
  · exact h.mono (by omega)
  · split
    · exact h.mono (by omega)
    · refine Drv.change_refs (S := { S with bodies := S.bodies ++ [⟨[], 0⟩] }) ⟨?_, fun t i ht => ?_, fun c hc x hx i hi => ?_⟩ _ fun x hx i hi => ?_
      · show (S.bodies ++ [_]).length ≤ N + 1; rw [List.length_append]; have := h.nb; simp; omega
      · show i < (S.bodies ++ [_]).length; rw [List.length_append]; have := h.kept t i ht; simp; omega
      · show i < (S.bodies ++ [_]).length; rw [List.length_append]; have := h.pend c hc x hx i hi; simp; omega
      · rw [List.mem_singleton] at hx; subst hx; injection hi with hi; show i < (S.bodies ++ [_]).length; rw [List.length_append]; simp; omega
theorem Drv.append_refs {S : Drv} {N : Nat} (h : S.RefsN N) (s : Nm) (bs : List UInt8) : (S.append s bs).1.RefsN N := by
  unfold Drv.append
  split
  · exact h
  · split
    · exact h
    · split
      · exact h
      · exact (Drv.setBody_refs h _ _).same rfl rfl rfl
theorem Drv.sync_refs {S : Drv} {N : Nat} (h : S.RefsN N) (s : Nm) : (S.sync s).1.RefsN N := by
  unfold Drv.sync
  split
  · exact h
  · exact Drv.setBody_refs h _ _
theorem Drv.remove_refs {S : Drv} {N : Nat} (h : S.RefsN N) (s : Nm) : (S.remove s).1.RefsN N := by
  unfold Drv.remove
  split
  · exact h
  · exact Drv.change_refs h _ fun x hx i hi => by rw [List.mem_singleton] at hx; subst hx; cases hi
theorem Drv.rename_refs {S : Drv} {N M : Nat} (h : S.RefsN N) (hI : S.Inv M) (s t : Nm) : (S.rename s t).1.RefsN N := by
  unfold Drv.rename
  split
  · exact h
  · split
    · exact h
    · rename_i k e hf
      split
      · exact h
      · refine Drv.change_refs h _ fun x hx i hi => ?_
        rcases List.mem_cons.1 hx with hx | hx
        · subst hx; cases hi
        · rw [List.mem_singleton] at hx; subst hx; injection hi with hi; subst hi; exact hI.rlt _ (refs_mem hI.tnow (find_some hf).1)
theorem Drv.syncDir_refs {S : Drv} {N M : Nat} (h : S.RefsN N) (hI : S.Inv M) : S.syncDir.RefsN N :=
  ⟨h.nb, fun s i hs => hI.rlt _ (refs_mem hI.tnow hs), (fun c hc => by cases hc)⟩
theorem Drv.flip_refs {S : Drv} {N : Nat} (h : S.RefsN N) (s : Nm) (n : Int) (pat : List UInt8) : (S.flip s n pat).1.RefsN N := by
  unfold Drv.flip
  split
  · exact h
  · split
    · exact h
    · split
      · exact h
      · exact Drv.setBody_refs h _ _
theorem Drv.cut_refs {S : Drv} {N : Nat} (h : S.RefsN N) (s : Nm) (n : Int) : (S.cut s n).1.RefsN N := by
  unfold Drv.cut
  split
  · exact h
  · split
    · exact h
    · split
      · exact h
      · exact (Drv.setBody_refs h _ _).same rfl rfl rfl
theorem Drv.crash_refs {S : Drv} {N : Nat} (hI : S.Inv N) (dirs : List Bool) (cuts : List Int) : (S.crash dirs cuts).RefsN N := by
  obtain ⟨h1, h2, h3, h4⟩ := crashK_facts hI dirs S.pending.length (Nat.le_refl _)
  rw [List.take_length] at h4
  obtain ⟨f1, f2, f3, f4, f5, f6, f7, f8⟩ := crashDir_facts h3 h2 h1 (dnames (S.crashK dirs S.pending.length)).length (Nat.le_refl _)
  have hl : (S.crash dirs cuts).bodies.length = (dnames (S.crashK dirs S.pending.length)).length := by unfold Drv.crash Drv.crashAt; simp
  refine ⟨?_, fun s i hs => ?_, (fun c hc => by cases hc)⟩
  · rw [hl, dnames_length]; have := hI.skept; omega
  · rw [hl]; exact f7 i (refs_mem f1 hs)

/-- What a wound, its drive and the document's keep. -/
structure KeptM (X : Wnd) (S : Drv) (k N r : Nat) : Prop where
  k : Kept X S k N r
  m : S.RefsN N
section
variable {X : Wnd} {S : Drv} {k N r : Nat}
theorem KeptM.mono {k' N' : Nat} (h : KeptM X S k N r) (hk : k ≤ k') (hN : N ≤ N') (hr : N' ≤ 1073741824) : KeptM X S k' N' r := ⟨h.k.mono hk hN hr, h.m.mono hN⟩
theorem KeptM.refs (h : KeptM X S k N r) : S.Refs := h.m.refs (by have := h.k.drv.rooms; omega)
theorem wcall_keptM (h : KeptM X S k N r) (may : Bool) (f : Drv × Int) (hf : f.1.Inv (N + 1)) (hfr : f.1.room = S.room) (hm : f.1.RefsN (N + 1)) (hr : N + 1 ≤ 1073741824) : KeptM (wcall X S may f).1 (wcall X S may f).2.1 (k + 1) (N + 1) r := by
  refine ⟨wcall_kept h.k may f hf hfr hr, ?_⟩
  unfold wcall
  split
  · exact hm
  · exact h.m.mono (by omega)
theorem wappend_keptM (h : KeptM X S k N r) (s : Nm) (bs : List UInt8) (hr : N + 1 ≤ 1073741824) : KeptM (wappend X S s bs).1 (wappend X S s bs).2.1 (k + 1) (N + 1) r := by
  refine ⟨wappend_kept h.k s bs hr, ?_⟩
  unfold wappend
  split
  · exact (Drv.append_refs h.m s bs).mono (by omega)
  · split
    · exact (Drv.append_refs h.m s _).mono (by omega)
    · exact h.m.mono (by omega)
theorem wread_keptM {α : Type} (h : KeptM X S k N r) (z : List α × Int) (hr : N + 1 ≤ 1073741824) : KeptM (wread X z).1 S (k + 1) (N + 1) r := ⟨wread_kept h.k z hr, h.m.mono (by omega)⟩
theorem awStep_keptM {Z : Wnd × Drv} (h : KeptM Z.1 Z.2 k N r) (nm : Nm) (bs : List UInt8) (i : Nat) (hr : N + 1 ≤ 1073741824) : KeptM (awStep nm bs Z i).1 (awStep nm bs Z i).2.1 (k + 1) (N + 1) r := by
  refine ⟨awStep_kept h.k nm bs i hr, ?_⟩
  unfold awStep
  split
  · exact (wcall_keptM h _ _ (Drv.create_inv h.k.drv _ hr) (Drv.create_keepsRoom _ _) (Drv.create_refs h.m _) hr).m
  · exact (wappend_keptM h _ _ hr).m
  · exact (wcall_keptM h _ _ (Drv.sync_inv h.k.drv _ hr) (Drv.sync_keepsRoom _ _) ((Drv.sync_refs h.m _).mono (by omega)) hr).m
  · exact (wcall_keptM h _ _ (Drv.rename_inv h.k.drv _ _ hr) (Drv.rename_keepsRoom _ _ _) ((Drv.rename_refs h.m h.k.drv _ _).mono (by omega)) hr).m
  · exact (wcall_keptM h _ _ (Drv.syncDir_inv h.k.drv hr) rfl ((Drv.syncDir_refs h.m h.k.drv).mono (by omega)) hr).m
theorem awFrom_keptM (nm : Nm) (bs : List UInt8) : ∀ (n i : Nat) (Z : Wnd × Drv) (k N r : Nat), KeptM Z.1 Z.2 k N r → N + n ≤ 1073741824 → KeptM (awFrom nm bs n i Z).1 (awFrom nm bs n i Z).2.1 (k + n) (N + n) r
  | 0, _, _, _, _, _, h, _ => h
  | n + 1, i, Z, k, N, r, h, hr => by
    have hs := awStep_keptM h nm bs i (by omega)
    unfold awFrom
    split
    · have := awFrom_keptM nm bs n (i + 1) ((awStep nm bs Z i).1, (awStep nm bs Z i).2.1) (k + 1) (N + 1) r hs (by omega)
      rw [show k + (n + 1) = k + 1 + n by omega, show N + (n + 1) = N + 1 + n by omega]
      exact this
    · exact hs.mono (by omega) (by omega) hr
theorem awrite_keptM (h : KeptM X S k N r) (nm : Nm) (bs : List UInt8) (hr : N + 5 ≤ 1073741824) : KeptM (awrite X S nm bs).1 (awrite X S nm bs).2.1 (k + 5) (N + 5) r := awFrom_keptM nm bs 5 0 (X, S) k N r h hr
end
end Go.Proofs.YtdmcjomcbhdcbaaGreat
