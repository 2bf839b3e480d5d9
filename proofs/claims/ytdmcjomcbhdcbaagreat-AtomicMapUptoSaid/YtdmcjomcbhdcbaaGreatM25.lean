/- One writing and a loss of power: the walk, a place with a drive.; What the bound of an upto statement gives; arguments opened by their bulk. No condition.; The document's drive, walked: List, Used, Loose, Image, Safe. -/
import Derived.Test.YtdmcjomcbhdcbaaGreatM24
import Derived.Test.YtdmcjomcbhdcbaaGreatRows
import Derived.Deep.Slices
import Derived.Deep.Fields
import Derived.ChangeArms
import Derived.SizedLaws
import Derived.Test.YtdmcjomcbhdcbaaGreatM16
namespace Go.Proofs.YtdmcjomcbhdcbaaGreat
open Go.RowKit Go.Maps

theorem FateIn.keep {w V : World} {pr : Option Addr} {nd : Nat} {dirs : List Bool} {pc : Option Addr} {nc : Nat} {cuts : List Int} (h : FateIn w pr nd dirs pc nc cuts) (hb : Below w.heap.size w V) : FateIn V pr nd dirs pc nc cuts :=
  ⟨(h.r.below hb).more hb.size, (h.c.below hb).more hb.size, h.rs, h.cs, h.nr, h.ncl⟩
end Go.Proofs.YtdmcjomcbhdcbaaGreat
namespace Go.Proofs.YtdmcjomcbhdcbaaGreat
open Go.RowKit Go.Maps Go.ChangeShapes Go.WideShapes

namespace bulks
theorem one_le {H : Type} (d : DataW H) : 1 ≤ Rows.uptoBulk d := by
  cases d with
  | lit l => cases l <;> simp [Rows.uptoBulk]
  | nil => simp [Rows.uptoBulk]
  | ptr d => simp [Rows.uptoBulk]
  | slice elems spare => simp [Rows.uptoBulk]
  | agg parts => simp [Rows.uptoBulk]
  | iface t d => simp [Rows.uptoBulk]
  | map entries => simp [Rows.uptoBulk]
  | held h => simp [Rows.uptoBulk]
theorem part_le {H : Type} {d : DataW H} {l : List (DataW H)} (h : d ∈ l) : Rows.uptoBulk d ≤ Rows.uptoBulkAll l := by
  induction l with
  | nil => cases h
  | cons x r ih =>
    simp only [Rows.uptoBulkAll]
    cases List.mem_cons.1 h with
    | inl e => subst e; omega
    | inr e => have := ih e; omega
theorem length_le {H : Type} (l : List (DataW H)) : l.length ≤ Rows.uptoBulkAll l := by
  induction l with
  | nil => simp [Rows.uptoBulkAll]
  | cons x r ih => have := one_le x; simp only [Rows.uptoBulkAll, List.length_cons]; omega
theorem slice_le {H : Type} (elems spare : List (DataW H)) : elems.length + spare.length + 1 ≤ Rows.uptoBulk (.slice elems spare) := by
  have h1 := length_le elems
  have h2 := length_le spare
  simp only [Rows.uptoBulk]
  omega
theorem all_cons {H : Type} (d : DataW H) (l : List (DataW H)) : Rows.uptoBulkAll (d :: l) = Rows.uptoBulk d + Rows.uptoBulkAll l := rfl
theorem all_nil {H : Type} : Rows.uptoBulkAll (H := H) [] = 0 := rfl
theorem append {H : Type} (l r : List (DataW H)) : Rows.uptoBulkAll (l ++ r) = Rows.uptoBulkAll l + Rows.uptoBulkAll r := by
  induction l with
  | nil => simp [Rows.uptoBulkAll]
  | cons x l ih => simp only [List.cons_append, Rows.uptoBulkAll, ih]; omega
theorem text {H : Type} (l : List UInt8) : Rows.uptoBulk (DataW.lit (H := H) (.string l)) = l.length + 1 := rfl
theorem agg_eq {H : Type} (l : List (DataW H)) : Rows.uptoBulk (.agg l) = Rows.uptoBulkAll l + 1 := rfl
theorem slice_eq {H : Type} (a b : List (DataW H)) : Rows.uptoBulk (.slice a b) = Rows.uptoBulkAll a + Rows.uptoBulkAll b + 1 := rfl
theorem bound {H : Type} {l : List (DataW H)} (hk : Rows.uptoSmall H l = true) : Rows.uptoBulkAll l ≤ 1048576 := by
  simpa [Rows.uptoSmall] using hk
end bulks

section
variable {H : Type} {enc : TypeId × Value → H} {P : Program} {w : World} {base : Nat} {spare : Nat → Bool} {held : Bool}
theorem len2b {α : Type} {l : List α} (h : l.length = 2) : ∃ a b, l = [a, b] := by
  match l, h with
  | [a, b], _ => exact ⟨a, b, rfl⟩
theorem len9b {α : Type} {l : List α} (h : l.length = 9) : ∃ c0 c1 c2 c3 c4 c5 c6 c7 c8, l = [c0, c1, c2, c3, c4, c5, c6, c7, c8] := by
  match l, h with
  | [c0, c1, c2, c3, c4, c5, c6, c7, c8], _ => exact ⟨c0, c1, c2, c3, c4, c5, c6, c7, c8, rfl⟩
theorem plain_spot {w : World} {ad : Addr} {v : Value} (h : w.cell? ad = some v) : ad.spot = none := by
  obtain ⟨b, off, spot⟩ := ad
  cases spot with
  | none => rfl
  | some s =>
    unfold World.cell? at h
    split at h <;> simp_all
theorem plain_spot0 {w : World} {ad : Addr} {v : Value} (h : w.cell? (ad.add 0) = some v) : ad.spot = none := by
  have e : ad.add 0 = ad := by unfold Addr.add; simp
  rw [e] at h
  exact plain_spot h

/-- A slice of one-cell elements, opened as a list, with its bulk. -/
theorem open_rowb {α : Type} [Inhabited α] (f : α → Value) {t e : TypeId} {fuel : Nat} {v : Value} {x : DataW H × List MemPlace} (ht : P.underlying t = some (.slice e)) (hc : P.cellsOf e = 1)
    (hdec : ∀ n V d, DataW.trod enc P w base spare held n e [V] = some d → ∃ a, V = f a) (h : DataW.trod enc P w base spare held fuel t [v] = some x) :
    ∃ A n c l, v = .slice A n c ∧ List.length l = n ∧ n ≤ c ∧ n + 1 ≤ Rows.uptoBulk x.1 ∧ (∀ ad, A = some ad → 0 < n → ad.spot = none) ∧ Reads w w.heap.size 1 A n (l.map f) := by
  rcases Go.Deep.open_slice1 ht hc h with ⟨hcs, hx⟩ | ⟨ad, len, cap, m, n, V, D, Pl, hcs, _, hl, hm, hmm, hx, hcell⟩
  · simp only [List.cons.injEq, and_true] at hcs
    exact ⟨none, 0, 0, [], hcs, rfl, Nat.le_refl _, by rw [hx]; simp [Rows.uptoBulk], (fun ad e _ => by cases e), Reads.none_⟩
  · simp only [List.cons.injEq, and_true] at hcs
    have hml : len ≤ m := by rw [hmm]; split <;> omega
    obtain ⟨B, hB⟩ : ∃ B : Nat → α, ∀ i, i < len → V i = f (B i) := Go.Deep.choose_lt (p := fun i b => V i = f b) fun i hi => by
      obtain ⟨_, htr⟩ := hcell i (by omega)
      exact hdec _ _ _ htr
    refine ⟨some ad, len, cap, (List.range len).map B, hcs, by simp, hl, ?_, fun a e hn => ?_, by simp, fun hn => ⟨ad, rfl, ?_, fun j u hu => ?_⟩⟩
    · have h1 := bulks.slice_le (H := H) ((List.range len).map D) ((List.range (m - len)).map fun j => D (len + j))
      rw [hx]
      simp only [List.length_map, List.length_range] at h1 ⊢
      omega
    · obtain rfl := Option.some.inj e
      exact plain_spot0 (hcell 0 (by omega)).1
    · have h0 := (hcell 0 (by omega)).1
      have := World.block_lt_of_cell? w _ h0
      rwa [block_of_add] at this
    · have hj : j < len := by
        rcases Nat.lt_or_ge j len with h | h
        · exact h
        · rw [List.getElem?_eq_none (by simp; exact h)] at hu; cases hu
      rw [(hcell j (by omega)).1, hB j hj]
      simp [hj] at hu
      rw [hu]
end

section
variable {H : Type} {enc : TypeId × Value → H} {w : World} {base : Nat} {spare : Nat → Bool} {held : Bool}
theorem decb_byte (n : Nat) (V : Value) (d : DataW H × List MemPlace) (h : DataW.trod enc Tryz.prog w base spare held n 5 [V] = some d) : ∃ b, V = B8 b := by
  obtain ⟨z, hz, _, hwf⟩ := DataW.trod_int Tryz.underlying5 h
  simp only [List.cons.injEq, and_true] at hz
  simp only [Lit.wf, Bool.and_eq_true, decide_eq_true_eq] at hwf
  have h1 : (0 : Int) ≤ z := hwf.1
  have h2 : z ≤ 255 := hwf.2
  refine ⟨UInt8.ofNat z.toNat, ?_⟩
  rw [hz]
  unfold B8
  congr 1
  rw [UInt8.toNat_ofNat']
  omega
theorem decb_bool (n : Nat) (V : Value) (d : DataW H × List MemPlace) (h : DataW.trod enc Tryz.prog w base spare held n 4 [V] = some d) : ∃ b, V = boolV b := by
  obtain ⟨b, hz, _⟩ := DataW.trod_bool Tryz.underlying4 h
  simp only [List.cons.injEq, and_true] at hz
  exact ⟨b, hz⟩
theorem decb_int (n : Nat) (V : Value) (d : DataW H × List MemPlace) (h : DataW.trod enc Tryz.prog w base spare held n 3 [V] = some d) : ∃ b, V = intV b := by
  obtain ⟨b, hz, _⟩ := DataW.trod_int Tryz.underlying3 h
  simp only [List.cons.injEq, and_true] at hz
  exact ⟨b, hz⟩
theorem openb_text {fuel : Nat} {V : Value} {x : DataW H × List MemPlace} (h : DataW.trod enc Tryz.prog w base spare held fuel 9 [V] = some x) : ∃ s : List UInt8, V = strV s ∧ s.length + 1 ≤ Rows.uptoBulk x.1 := by
  obtain ⟨s, hs, hx, _⟩ := DataW.trod_string Tryz.underlying9 h
  simp only [List.cons.injEq, and_true] at hs
  refine ⟨s.data.toList, ?_, ?_⟩
  · rw [hs]; rfl
  · rw [hx]; exact Nat.le_of_eq (bulks.text _).symm
theorem openb_fault {fuel : Nat} {cs : List Value} {x : DataW H × List MemPlace} (h : DataW.trod enc Tryz.prog w base spare held fuel 181 cs = some x) : ∃ f : Int × Int, cs = [.int .i64 f.1, .int .i64 f.2] := by
  obtain ⟨xs, n, _, _, hlen, hxl, hf⟩ := DataW.trod_struct Tryz.underlying181 h
  have hc : Tryz.prog.cellsOf 181 = 2 := by kernel_rfl
  rw [hc] at hlen
  obtain ⟨c0, c1, rfl⟩ := len2b hlen
  have h3 : Tryz.prog.cellsOf 3 = 1 := by kernel_rfl
  obtain ⟨y0, y1, rfl⟩ := len2b (hxl.trans (by decide))
  have g0 : DataW.trod enc Tryz.prog w base spare held n 3 (List.take (Tryz.prog.cellsOf 3) [c0, c1]) = some y0 := hf 0 _ rfl
  have g1 : DataW.trod enc Tryz.prog w base spare held n 3 (List.take (Tryz.prog.cellsOf 3) [c1]) = some y1 := hf 1 _ rfl
  rw [h3] at g0 g1
  obtain ⟨a, ha, _⟩ := DataW.trod_int Tryz.underlying3 g0
  obtain ⟨b, hb, _⟩ := DataW.trod_int Tryz.underlying3 g1
  simp at ha hb
  exact ⟨(a, b), by rw [ha, hb]⟩
theorem openb_plan {fuel : Nat} {v : Value} {x : DataW H × List MemPlace} (h : DataW.trod enc Tryz.prog w base spare held fuel 23 [v] = some x) :
    ∃ A n c l, v = .slice A n c ∧ List.length l = n ∧ n ≤ c ∧ n + 1 ≤ Rows.uptoBulk x.1 ∧ (∀ ad, A = some ad → 0 < n → ad.block < w.heap.size) ∧ Reads w w.heap.size 2 A n (planCells l) := by
  have hc : Tryz.prog.cellsOf 181 = 2 := by kernel_rfl
  rcases Go.Deep.open_slice Tryz.underlying23 h with ⟨hcs, hx⟩ | ⟨ad, len, cap, m, n, D, Pl, hcs, _, hl, hm, hmm, hx, hcell⟩
  · simp only [List.cons.injEq, and_true] at hcs
    exact ⟨none, 0, 0, [], hcs, rfl, Nat.le_refl _, by rw [hx]; simp [Rows.uptoBulk], (fun ad e _ => by cases e), Reads.none_⟩
  · simp only [List.cons.injEq, and_true] at hcs
    have hml : len ≤ m := by rw [hmm]; split <;> omega
    rw [hc] at hcell
    obtain ⟨B, hB⟩ : ∃ B : Nat → Int × Int, ∀ i, i < len → w.cell? (ad.add (i * 2)) = some (.int .i64 (B i).1) ∧ w.cell? (ad.add (i * 2 + 1)) = some (.int .i64 (B i).2) :=
      Go.Deep.choose_lt (p := fun i (b : Int × Int) => w.cell? (ad.add (i * 2)) = some (.int .i64 b.1) ∧ w.cell? (ad.add (i * 2 + 1)) = some (.int .i64 b.2)) fun i hi => by
        obtain ⟨cs', h1, h2⟩ := hcell i (by omega)
        obtain ⟨f, rfl⟩ := openb_fault h2
        obtain ⟨_, _, h3⟩ := World.cells?_some h1
        have e0 := h3 0 (by omega)
        have e1 := h3 1 (by omega)
        rw [Go.Deep.add_add] at e0 e1
        exact ⟨f, e0, e1⟩
    have hpl : ∀ k, (planCells ((List.range k).map B)).length = k * 2 := fun k => by rw [planCells_length]; simp
    have hblk : 0 < len → ad.block < w.heap.size := fun hn => by
      have h0 := (hB 0 (by omega)).1
      have := World.block_lt_of_cell? w _ h0
      rwa [block_of_add] at this
    refine ⟨some ad, len, cap, (List.range len).map B, hcs, by simp, hl, ?_, fun a e hz => ?_, hpl len, fun hn => ⟨ad, rfl, hblk hn, fun j u hu => ?_⟩⟩
    · have h1 := bulks.slice_le (H := H) ((List.range len).map D) ((List.range (m - len)).map fun j => D (len + j))
      rw [hx]
      simp only [List.length_map, List.length_range] at h1 ⊢
      omega
    · obtain rfl := Option.some.inj e
      exact hblk hz
    · have hj : j < len * 2 := by
        rcases Nat.lt_or_ge j (len * 2) with h | h
        · exact h
        · rw [List.getElem?_eq_none (by rw [hpl]; exact h)] at hu; cases hu
      have hk : j / 2 < len := by omega
      have hg : ((List.range len).map B)[j / 2]? = some (B (j / 2)) := by simp [hk]
      obtain ⟨p0, p1⟩ := plan_get _ _ _ hg
      obtain ⟨q0, q1⟩ := hB _ hk
      rcases Nat.mod_two_eq_zero_or_one j with h | h
      · have e : j = j / 2 * 2 := by omega
        rw [e] at hu ⊢
        rw [p0] at hu; rw [q0, hu]
      · have e : j = j / 2 * 2 + 1 := by omega
        rw [e] at hu ⊢
        rw [p1] at hu; rw [q1, hu]

theorem openb_file {fuel : Nat} {cs : List Value} {x : DataW H × List MemPlace} (h : DataW.trod enc Tryz.prog w base spare held fuel 75 cs = some x) :
    ∃ (f : File) (a : Option Addr) (c : Nat), cs = [strV f.1, .slice a f.2.length c] ∧ Reads w w.heap.size 1 a f.2.length (f.2.map B8) ∧ f.1.length + f.2.length + 1 ≤ Rows.uptoBulk x.1 := by
  obtain ⟨xs, n, _, hx, hlen, hxl, hf⟩ := DataW.trod_struct Tryz.underlying75 h
  have hc : Tryz.prog.cellsOf 75 = 2 := by kernel_rfl
  rw [hc] at hlen
  obtain ⟨c0, c1, rfl⟩ := len2b hlen
  have h3 : Tryz.prog.cellsOf 9 = 1 := by kernel_rfl
  have h4 : Tryz.prog.cellsOf 26 = 1 := by kernel_rfl
  have h5 : Tryz.prog.cellsOf 5 = 1 := by kernel_rfl
  obtain ⟨y0, y1, rfl⟩ := len2b (hxl.trans (by decide))
  have g0 : DataW.trod enc Tryz.prog w base spare held n 9 (List.take (Tryz.prog.cellsOf 9) [c0, c1]) = some y0 := hf 0 _ rfl
  have g1 : DataW.trod enc Tryz.prog w base spare held n 26 (List.take (Tryz.prog.cellsOf 26) [c1]) = some y1 := hf 1 _ rfl
  rw [h3] at g0
  rw [h4] at g1
  obtain ⟨s, hs, hsb⟩ := openb_text g0
  obtain ⟨A, m, c, l, hv, hl, _, hb, _, hr⟩ := open_rowb B8 Tryz.underlying26 h5 decb_byte g1
  subst hl
  refine ⟨(s, l), A, c, by rw [← hv, ← hs], hr, ?_⟩
  rw [hx]
  simp only [bulks.agg_eq, List.map_cons, List.map_nil, bulks.all_cons, bulks.all_nil]
  show s.length + l.length + 1 ≤ _
  omega

theorem fileCells_length (fs : List File) : ∀ vals : List Value, vals.length = fs.length → (fileCells fs vals).length = fs.length * 2 := by
  induction fs with
  | nil => intro vals _; rfl
  | cons f r ih =>
    intro vals h
    cases vals with
    | nil => simp at h
    | cons v vs =>
      have e : fileCells (f :: r) (v :: vs) = [strV f.1, v] ++ fileCells r vs := rfl
      rw [e, List.length_append, ih vs (by simpa using h)]
      simp only [List.length_cons, List.length_nil]
      omega

theorem total_map {len : Nat} {D : Nat → DataW H} {B : Nat → File} (hB : ∀ i, i < len → (B i).1.length + (B i).2.length + 1 ≤ Rows.uptoBulk (D i)) : ∀ l : List Nat, (∀ i ∈ l, i < len) → Drv.total (l.map B) + l.length ≤ Rows.uptoBulkAll (l.map D) := by
  intro l
  induction l with
  | nil => intro _; simp [Drv.total]
  | cons i r ih =>
    intro h
    have h1 := ih fun j hj => h j (List.mem_cons_of_mem _ hj)
    have h2 := hB i (h i List.mem_cons_self)
    simp only [List.map_cons, List.length_cons, bulks.all_cons, Drv.total, List.sum_cons] at h1 ⊢
    omega

theorem openb_files {fuel : Nat} {v : Value} {x : DataW H × List MemPlace} (h : DataW.trod enc Tryz.prog w base spare held fuel 22 [v] = some x) :
    ∃ A n c fs vals, v = .slice A n c ∧ List.length fs = n ∧ FilesIn w A fs vals ∧ (∀ ad, A = some ad → 0 < fs.length → ad.spot = none) ∧ Drv.total fs + n ≤ Rows.uptoBulk x.1 ∧ (∀ f ∈ fs, f.1.length + f.2.length ≤ Rows.uptoBulk x.1) := by
  have hc : Tryz.prog.cellsOf 75 = 2 := by kernel_rfl
  rcases Go.Deep.open_slice Tryz.underlying22 h with ⟨hcs, hx⟩ | ⟨ad, len, cap, m, n, D, Pl, hcs, _, hl, hm, hmm, hx, hcell⟩
  · simp only [List.cons.injEq, and_true] at hcs
    exact ⟨none, 0, 0, [], [], hcs, rfl, ⟨rfl, Reads.none_, fun k f u h => by simp at h⟩, (fun ad e _ => by cases e), by rw [hx]; simp [Rows.uptoBulk, Drv.total], fun f h => by simp at h⟩
  · simp only [List.cons.injEq, and_true] at hcs
    have hml : len ≤ m := by rw [hmm]; split <;> omega
    rw [hc] at hcell
    obtain ⟨B, hB⟩ : ∃ B : Nat → File × (Option Addr × Nat), ∀ i, i < len → w.cell? (ad.add (i * 2)) = some (strV (B i).1.1) ∧ w.cell? (ad.add (i * 2 + 1)) = some (.slice (B i).2.1 (B i).1.2.length (B i).2.2) ∧ Reads w w.heap.size 1 (B i).2.1 (B i).1.2.length ((B i).1.2.map B8) ∧ (B i).1.1.length + (B i).1.2.length + 1 ≤ Rows.uptoBulk (D i) := by
      refine Go.Deep.choose_lt (p := fun i (b : File × (Option Addr × Nat)) => w.cell? (ad.add (i * 2)) = some (strV b.1.1) ∧ w.cell? (ad.add (i * 2 + 1)) = some (.slice b.2.1 b.1.2.length b.2.2) ∧ Reads w w.heap.size 1 b.2.1 b.1.2.length (b.1.2.map B8) ∧ b.1.1.length + b.1.2.length + 1 ≤ Rows.uptoBulk (D i)) fun i hi => ?_
      obtain ⟨cs', h1, h2⟩ := hcell i (by omega)
      obtain ⟨f, a, c, rfl, hr, hb⟩ := openb_file h2
      obtain ⟨_, _, h3⟩ := World.cells?_some h1
      have e0 := h3 0 (by omega)
      have e1 := h3 1 (by omega)
      rw [Go.Deep.add_add] at e0 e1
      exact ⟨(f, a, c), e0, e1, hr, hb⟩
    obtain ⟨fs, hfs⟩ : ∃ fs, fs = (List.range len).map fun i => (B i).1 := ⟨_, rfl⟩
    obtain ⟨vals, hvals⟩ : ∃ vals, vals = (List.range len).map fun i => Value.slice (B i).2.1 (B i).1.2.length (B i).2.2 := ⟨_, rfl⟩
    have hfl : fs.length = len := by rw [hfs]; simp
    have hvl : vals.length = len := by rw [hvals]; simp
    have hfg : ∀ k, k < len → fs[k]? = some (B k).1 := fun k hk => by rw [hfs]; simp [hk]
    have hvg : ∀ k, k < len → vals[k]? = some (.slice (B k).2.1 (B k).1.2.length (B k).2.2) := fun k hk => by rw [hvals]; simp [hk]
    have hcl : (fileCells fs vals).length = len * 2 := by rw [fileCells_length _ _ (by rw [hfl, hvl]), hfl]
    have hblk : 0 < len → ad.block < w.heap.size := fun hn => by
      have h0 := (hB 0 (by omega)).1
      have := World.block_lt_of_cell? w _ h0
      rwa [block_of_add] at this
    refine ⟨some ad, len, cap, fs, vals, hcs, hfl, ⟨by rw [hfl, hvl], ⟨by rw [hcl, hfl], fun hn => ⟨ad, rfl, hblk (by omega), fun j u hu => ?_⟩⟩, fun k f u hf hu => ?_⟩, fun a e hn => ?_, ?_, ?_⟩
    · have hj : j < len * 2 := by
        rcases Nat.lt_or_ge j (len * 2) with h | h
        · exact h
        · rw [List.getElem?_eq_none (by rw [hcl]; exact h)] at hu; cases hu
      have hk : j / 2 < len := by omega
      obtain ⟨p0, p1⟩ := fileCells_get _ _ (hfg _ hk) (hvg _ hk)
      obtain ⟨q0, q1, _⟩ := hB _ hk
      rcases Nat.mod_two_eq_zero_or_one j with h | h
      · have e : j = j / 2 * 2 := by omega
        rw [e] at hu ⊢
        rw [p0] at hu; rw [q0, hu]
      · have e : j = j / 2 * 2 + 1 := by omega
        rw [e] at hu ⊢
        rw [p1] at hu; rw [q1, hu]
    · have hk : k < len := by
        rcases Nat.lt_or_ge k len with h | h
        · exact h
        · rw [List.getElem?_eq_none (by omega)] at hf; cases hf
      rw [hfg k hk] at hf
      rw [hvg k hk] at hu
      obtain rfl := Option.some.inj hf
      obtain rfl := Option.some.inj hu
      exact ⟨_, _, rfl, (hB k hk).2.2.1⟩
    · obtain rfl := Option.some.inj e
      exact plain_spot0 (hB 0 (by omega)).1
    · rw [hx]
      have h1 := total_map (D := D) (B := fun i => (B i).1) (fun i hi => (hB i hi).2.2.2) (List.range len) (fun i hi => List.mem_range.1 hi)
      rw [← hfs, List.length_range] at h1
      simp only [bulks.slice_eq]
      omega
    · intro f hf
      rw [hfs] at hf
      obtain ⟨i, hi, rfl⟩ := List.mem_map.1 hf
      have h1 := (hB i (List.mem_range.1 hi)).2.2.2
      have h2 := bulks.part_le (d := D i) (l := (List.range len).map D) (List.mem_map.2 ⟨i, hi, rfl⟩)
      rw [hx]
      simp only [bulks.slice_eq]
      omega

theorem openb_fate {fuel : Nat} {cs : List Value} {x : DataW H × List MemPlace} (h : DataW.trod enc Tryz.prog w base spare held fuel 30 cs = some x) (hsm : Rows.uptoBulk x.1 ≤ 1048576) :
    ∃ pr nd cr dirs pc nc cc cuts, cs = [.slice pr nd cr, .slice pc nc cc] ∧ FateIn w pr nd dirs pc nc cuts ∧ nd + nc ≤ Rows.uptoBulk x.1 := by
  obtain ⟨xs, n, _, hx, hlen, hxl, hf⟩ := DataW.trod_struct Tryz.underlying30 h
  have hc : Tryz.prog.cellsOf 30 = 2 := by kernel_rfl
  rw [hc] at hlen
  obtain ⟨c0, c1, rfl⟩ := len2b hlen
  have h3 : Tryz.prog.cellsOf 27 = 1 := by kernel_rfl
  have h4 : Tryz.prog.cellsOf 28 = 1 := by kernel_rfl
  have k3 : Tryz.prog.cellsOf 3 = 1 := by kernel_rfl
  have k4 : Tryz.prog.cellsOf 4 = 1 := by kernel_rfl
  obtain ⟨y0, y1, rfl⟩ := len2b (hxl.trans (by decide))
  have g0 : DataW.trod enc Tryz.prog w base spare held n 27 (List.take (Tryz.prog.cellsOf 27) [c0, c1]) = some y0 := hf 0 _ rfl
  have g1 : DataW.trod enc Tryz.prog w base spare held n 28 (List.take (Tryz.prog.cellsOf 28) [c1]) = some y1 := hf 1 _ rfl
  rw [h3] at g0
  rw [h4] at g1
  obtain ⟨pr, nd, cr, dirs, e0, l0, _, b0, s0, r0⟩ := open_rowb boolV Tryz.underlying27 k4 decb_bool g0
  obtain ⟨pc, nc, cc, cuts, e1, l1, _, b1, s1, r1⟩ := open_rowb intV Tryz.underlying28 k3 decb_int g1
  have hb : nd + nc ≤ Rows.uptoBulk x.1 := by
    rw [hx]
    simp only [bulks.agg_eq, List.map_cons, List.map_nil, bulks.all_cons, bulks.all_nil]
    omega
  exact ⟨pr, nd, cr, dirs, pc, nc, cc, cuts, by rw [e0, e1], ⟨r0, r1, s0, s1, by omega, by omega⟩, hb⟩

/-- A place, opened. -/
theorem openb_place {fuel : Nat} {cs : List Value} {x : DataW H × List MemPlace} (h : DataW.trod enc Tryz.prog w base spare held fuel 25 cs = some x) (hsm : Rows.uptoBulk x.1 ≤ 1048576) :
    ∃ p L, cs = placeCells p L ∧ PlaceIn w p L ∧ p.plan.length ≤ 1048576 ∧ p.files.length ≤ 1048576 ∧ ∀ f ∈ p.files, f.2.length ≤ 1048576 := by
  obtain ⟨xs, n, _, hx, hlen, hxl, hf⟩ := DataW.trod_struct Tryz.underlying25 h
  have hc : Tryz.prog.cellsOf 25 = 9 := by kernel_rfl
  rw [hc] at hlen
  obtain ⟨c0, c1, c2, c3, c4, c5, c6, c7, c8, rfl⟩ := len9b hlen
  have k3 : Tryz.prog.cellsOf 3 = 1 := by kernel_rfl
  have k4 : Tryz.prog.cellsOf 4 = 1 := by kernel_rfl
  have kf : Tryz.prog.cellsOf 22 = 1 := by kernel_rfl
  have kp : Tryz.prog.cellsOf 23 = 1 := by kernel_rfl
  obtain ⟨y0, y1, y2, y3, y4, y5, y6, y7, y8, rfl⟩ := len9b (hxl.trans (by decide))
  have g0 : DataW.trod enc Tryz.prog w base spare held n 4 (List.take (Tryz.prog.cellsOf 4) [c0, c1, c2, c3, c4, c5, c6, c7, c8]) = some y0 := hf 0 _ rfl
  have g1 : DataW.trod enc Tryz.prog w base spare held n 3 (List.take (Tryz.prog.cellsOf 3) [c1, c2, c3, c4, c5, c6, c7, c8]) = some y1 := hf 1 _ rfl
  have g2 : DataW.trod enc Tryz.prog w base spare held n 22 (List.take (Tryz.prog.cellsOf 22) [c2, c3, c4, c5, c6, c7, c8]) = some y2 := hf 2 _ rfl
  have g3 : DataW.trod enc Tryz.prog w base spare held n 23 (List.take (Tryz.prog.cellsOf 23) [c3, c4, c5, c6, c7, c8]) = some y3 := hf 3 _ rfl
  have g4 : DataW.trod enc Tryz.prog w base spare held n 4 (List.take (Tryz.prog.cellsOf 4) [c4, c5, c6, c7, c8]) = some y4 := hf 4 _ rfl
  have g5 : DataW.trod enc Tryz.prog w base spare held n 4 (List.take (Tryz.prog.cellsOf 4) [c5, c6, c7, c8]) = some y5 := hf 5 _ rfl
  have g6 : DataW.trod enc Tryz.prog w base spare held n 3 (List.take (Tryz.prog.cellsOf 3) [c6, c7, c8]) = some y6 := hf 6 _ rfl
  have g7 : DataW.trod enc Tryz.prog w base spare held n 3 (List.take (Tryz.prog.cellsOf 3) [c7, c8]) = some y7 := hf 7 _ rfl
  have g8 : DataW.trod enc Tryz.prog w base spare held n 3 (List.take (Tryz.prog.cellsOf 3) [c8]) = some y8 := hf 8 _ rfl
  rw [k4] at g0 g4 g5
  rw [k3] at g1 g6 g7 g8
  rw [kf] at g2
  rw [kp] at g3
  obtain ⟨a0, e0, _⟩ := DataW.trod_bool Tryz.underlying4 g0
  obtain ⟨a1, e1, _⟩ := DataW.trod_int Tryz.underlying3 g1
  obtain ⟨fa, nf, fc, fs, vals, e2, lf, hfi, hsp, htot, hff⟩ := openb_files g2
  obtain ⟨pa, np, pc, pl, e3, lp, hcp, hbp, hblk, hrp⟩ := openb_plan g3
  obtain ⟨a4, e4, _⟩ := DataW.trod_bool Tryz.underlying4 g4
  obtain ⟨a5, e5, _⟩ := DataW.trod_bool Tryz.underlying4 g5
  obtain ⟨a6, e6, _⟩ := DataW.trod_int Tryz.underlying3 g6
  obtain ⟨a7, e7, _⟩ := DataW.trod_int Tryz.underlying3 g7
  obtain ⟨a8, e8, _⟩ := DataW.trod_int Tryz.underlying3 g8
  simp only [List.take, List.cons.injEq, and_true] at e0 e1 e4 e5 e6 e7 e8
  have hb : Rows.uptoBulk y2.1 + Rows.uptoBulk y3.1 ≤ 1048576 := by
    rw [hx] at hsm
    simp only [bulks.agg_eq, List.map_cons, List.map_nil, bulks.all_cons, bulks.all_nil] at hsm
    omega
  subst lf lp
  refine ⟨⟨a0, a1, fs, pl, a4, a5, a6, a7, a8⟩, ⟨fa, fc, pa, pc⟩, ?_, ⟨⟨vals, hfi⟩, hsp, hrp, by show fs.length ≤ _; omega, by show Drv.total fs ≤ _; omega, fun f hf => ?_, by show pl.length * 16 ≤ _; omega, hblk, hcp⟩, by show pl.length ≤ _; omega, by show fs.length ≤ _; omega, fun f hf => ?_⟩
  · subst e0 e1 e4 e5 e6 e7 e8
    simp only [placeCells, ← e2, ← e3]
  · have := hff f hf; omega
  · have := hff f hf; show f.2.length ≤ _; omega
end
end Go.Proofs.YtdmcjomcbhdcbaaGreat
namespace Go.Proofs.YtdmcjomcbhdcbaaGreat
open Go.RowKit Go.Maps

def usedK (S : Drv) (l : List Ent) : Nat := (l.map fun e => S.len e.2).sum
end Go.Proofs.YtdmcjomcbhdcbaaGreat
