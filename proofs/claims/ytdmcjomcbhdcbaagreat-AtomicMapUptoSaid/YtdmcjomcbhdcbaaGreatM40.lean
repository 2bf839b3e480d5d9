/- A list of steps, opened by its bulk. No condition.; Sweeps, writings and removals over any drive: what the names show then. No program.; The files but for one name: cairnlaw13.without, walked. -/
import Derived.Test.YtdmcjomcbhdcbaaGreatM25
import Derived.Test.YtdmcjomcbhdcbaaGreatM39
import Derived.Test.YtdmcjomcbhdcbaaGreatM30
import Derived.Test.YtdmcjomcbhdcbaaGreatM23
import Derived.Test.YtdmcjomcbhdcbaaGreatM36
namespace Go.Proofs.YtdmcjomcbhdcbaaGreat
open Go.RowKit Go.Maps Go.ChangeShapes Go.WideShapes

section
variable {H : Type} {enc : TypeId × Value → H} {w : World} {base : Nat} {spare : Nat → Bool} {held : Bool}
theorem openb_int {fuel : Nat} {V : Value} {x : DataW H × List MemPlace} (h : DataW.trod enc Tryz.prog w base spare held fuel 3 [V] = some x) : ∃ z, V = .int .i64 z ∧ z ≤ 9223372036854775807 := by
  obtain ⟨z, hz, _, hwf⟩ := DataW.trod_int Tryz.underlying3 h
  simp only [List.cons.injEq, and_true] at hz
  simp only [Lit.wf, Bool.and_eq_true, decide_eq_true_eq] at hwf
  have h2 : z ≤ 9223372036854775807 := hwf.2
  exact ⟨z, hz, h2⟩
theorem reads_lt {w : World} {B size n : Nat} {A : Option Addr} {xs : List Value} (h : Reads w B size A n xs) : ∀ ad, A = some ad → 0 < n → ad.block < B := fun ad e hn => by
  obtain ⟨ad', e', hb, _⟩ := h.2 hn
  rw [e] at e'
  obtain rfl := Option.some.inj e'
  exact hb
theorem openb_round {fuel : Nat} {cs : List Value} {x : DataW H × List MemPlace} (h : DataW.trod enc Tryz.prog w base spare held fuel 25 cs = some x) {p : PPlace} {L : PlLay} (e : cs = placeCells p L) : p.round ≤ 9223372036854775807 := by
  obtain ⟨xs, n, _, hx, hlen, hxl, hf⟩ := DataW.trod_struct Tryz.underlying25 h
  have k3 : Tryz.prog.cellsOf 3 = 1 := by kernel_rfl
  obtain ⟨y0, y1, y2, y3, y4, y5, y6, y7, y8, rfl⟩ := len9b (hxl.trans (by decide))
  subst e
  have g6 : DataW.trod enc Tryz.prog w base spare held n 3 (List.take (Tryz.prog.cellsOf 3) [.int .i64 p.round, .int .i64 p.call, .int .i64 p.inside]) = some y6 := hf 6 _ rfl
  rw [k3] at g6
  obtain ⟨z, hz, hb⟩ := openb_int g6
  injection hz with _ hz
  rw [hz]
  exact hb

/-- The fates of an act: the first of them. -/
theorem openb_fates {fuel : Nat} {v : Value} {x : DataW H × List MemPlace} (h : DataW.trod enc Tryz.prog w base spare held fuel 57 [v] = some x) (hsm : Rows.uptoBulk x.1 ≤ 1048576) :
    ∃ fa fn fc pr nd cr dirs pc nc cc cuts, v = .slice fa fn fc ∧ FateLow w w.heap.size (fun _ => False) fa fn fc pr nd cr dirs pc nc cc cuts ∧ nc ≤ 1048576 ∧ (∀ ad, fa = some ad → 0 < fn → ad.block < w.heap.size) := by
  have hc : Tryz.prog.cellsOf 30 = 2 := by kernel_rfl
  have none_ : FateIn w none 0 [] none 0 [] := ⟨Reads.none_, Reads.none_, (fun ad e => by cases e), (fun ad e => by cases e), by omega, by omega⟩
  rcases Go.Deep.open_slice Tryz.underlying57 h with ⟨hcs, hx⟩ | ⟨ad, len, cap, m, n, D, Pl, hcs, _, hl, hm, hmm, hx, hcell⟩
  · simp only [List.cons.injEq, and_true] at hcs
    exact ⟨none, 0, 0, none, 0, 0, [], none, 0, 0, [], hcs, ⟨none_, (fun ad e => by cases e), (fun ad e => by cases e), by omega, .inl ⟨rfl, rfl, rfl, rfl, rfl, rfl, rfl⟩⟩, by omega, fun ad e => by cases e⟩
  · simp only [List.cons.injEq, and_true] at hcs
    have hml : len ≤ m := by rw [hmm]; split <;> omega
    by_cases h0 : len = 0
    · subst h0
      exact ⟨some ad, 0, cap, none, 0, 0, [], none, 0, 0, [], hcs, ⟨none_, (fun ad e => by cases e), (fun ad e => by cases e), hl, .inl ⟨rfl, rfl, rfl, rfl, rfl, rfl, rfl⟩⟩, by omega, fun ad e h => by omega⟩
    · rw [hc] at hcell
      obtain ⟨cs', h1, h2⟩ := hcell 0 (by omega)
      have hD : Rows.uptoBulk (D 0) ≤ 1048576 := by
        have h3 := bulks.part_le (d := D 0) (l := (List.range len).map D) (List.mem_map.2 ⟨0, List.mem_range.2 (by omega), rfl⟩)
        rw [hx] at hsm
        simp only [bulks.slice_eq] at hsm
        omega
      obtain ⟨pr, nd, cr, dirs, pc, nc, cc, cuts, rfl, hf, hb⟩ := openb_fate h2 hD
      obtain ⟨_, _, h3⟩ := World.cells?_some h1
      have e0 := h3 0 (by omega)
      have e1 := h3 1 (by omega)
      rw [Go.Deep.add_add] at e0 e1
      have hsp : ad.spot = none := plain_spot0 (by simpa using e0)
      obtain ⟨g, o, sp⟩ := ad
      simp only at hsp
      subst hsp
      have e0' : w.cell? ⟨g, o, none⟩ = some (.slice pr nd cr) := by simpa [Addr.add] using e0
      have e1' : w.cell? ⟨g, o + 1, none⟩ = some (.slice pc nc cc) := by simpa [Addr.add] using e1
      have hg : g < w.heap.size := World.block_lt_of_cell? w _ e0'
      have hb' : nd + nc ≤ Rows.uptoBulk (D 0) := hb
      exact ⟨some ⟨g, o, none⟩, len, cap, pr, nd, cr, dirs, pc, nc, cc, cuts, hcs, ⟨hf, fun a e h => .inl (reads_lt hf.r a e h), fun a e h => .inl (reads_lt hf.c a e h), hl, .inr ⟨g, o, rfl, by omega, hg, e0', e1'⟩⟩, by omega, fun a e _ => by injection e with e; subst e; exact hg⟩

theorem len10b {α : Type} {l : List α} (h : l.length = 10) : ∃ c0 c1 c2 c3 c4 c5 c6 c7 c8 c9, l = [c0, c1, c2, c3, c4, c5, c6, c7, c8, c9] := by
  match l, h with
  | [c0, c1, c2, c3, c4, c5, c6, c7, c8, c9], _ => exact ⟨c0, c1, c2, c3, c4, c5, c6, c7, c8, c9, rfl⟩
theorem len13b {α : Type} {l : List α} (h : l.length = 13) : ∃ c0 c1 c2 c3 c4 c5 c6 c7 c8 c9 d0 d1 d2, l = [c0, c1, c2, c3, c4, c5, c6, c7, c8, c9, d0, d1, d2] := by
  match l, h with
  | [c0, c1, c2, c3, c4, c5, c6, c7, c8, c9, d0, d1, d2], _ => exact ⟨c0, c1, c2, c3, c4, c5, c6, c7, c8, c9, d0, d1, d2, rfl⟩
theorem len4b {α : Type} {l : List α} (h : l.length = 4) : ∃ a b c d, l = [a, b, c, d] := by
  match l, h with
  | [a, b, c, d], _ => exact ⟨a, b, c, d, rfl⟩

/-- An act, opened. -/
theorem openb_act {fuel : Nat} {cs : List Value} {x : DataW H × List MemPlace} (h : DataW.trod enc Tryz.prog w base spare held fuel 59 cs = some x) (hsm : Rows.uptoBulk x.1 ≤ 1048576) :
    ∃ a L, cs = (actCells a L).toList ∧ ActIn w w.heap.size (fun _ => False) a L ∧ (∀ ad, L.fa = some ad → 0 < L.fn → ad.block < w.heap.size) := by
  obtain ⟨xs, n, _, hx, hlen, hxl, hf⟩ := DataW.trod_struct Tryz.underlying59 h
  have hc : Tryz.prog.cellsOf 59 = 10 := by kernel_rfl
  rw [hc] at hlen
  obtain ⟨c0, c1, c2, c3, c4, c5, c6, c7, c8, c9, rfl⟩ := len10b hlen
  have k3 : Tryz.prog.cellsOf 3 = 1 := by kernel_rfl
  have kd : Tryz.prog.cellsOf 26 = 1 := by kernel_rfl
  have kb : Tryz.prog.cellsOf 5 = 1 := by kernel_rfl
  have kp : Tryz.prog.cellsOf 23 = 1 := by kernel_rfl
  have kf : Tryz.prog.cellsOf 57 = 1 := by kernel_rfl
  obtain ⟨y0, y1, y2, y3, y4, y5, y6, y7, y8, y9, rfl⟩ := len10b (hxl.trans (by decide))
  have g0 : DataW.trod enc Tryz.prog w base spare held n 3 (List.take (Tryz.prog.cellsOf 3) [c0, c1, c2, c3, c4, c5, c6, c7, c8, c9]) = some y0 := hf 0 _ rfl
  have g1 : DataW.trod enc Tryz.prog w base spare held n 3 (List.take (Tryz.prog.cellsOf 3) [c1, c2, c3, c4, c5, c6, c7, c8, c9]) = some y1 := hf 1 _ rfl
  have g2 : DataW.trod enc Tryz.prog w base spare held n 3 (List.take (Tryz.prog.cellsOf 3) [c2, c3, c4, c5, c6, c7, c8, c9]) = some y2 := hf 2 _ rfl
  have g3 : DataW.trod enc Tryz.prog w base spare held n 3 (List.take (Tryz.prog.cellsOf 3) [c3, c4, c5, c6, c7, c8, c9]) = some y3 := hf 3 _ rfl
  have g4 : DataW.trod enc Tryz.prog w base spare held n 26 (List.take (Tryz.prog.cellsOf 26) [c4, c5, c6, c7, c8, c9]) = some y4 := hf 4 _ rfl
  have g5 : DataW.trod enc Tryz.prog w base spare held n 23 (List.take (Tryz.prog.cellsOf 23) [c5, c6, c7, c8, c9]) = some y5 := hf 5 _ rfl
  have g6 : DataW.trod enc Tryz.prog w base spare held n 3 (List.take (Tryz.prog.cellsOf 3) [c6, c7, c8, c9]) = some y6 := hf 6 _ rfl
  have g7 : DataW.trod enc Tryz.prog w base spare held n 3 (List.take (Tryz.prog.cellsOf 3) [c7, c8, c9]) = some y7 := hf 7 _ rfl
  have g8 : DataW.trod enc Tryz.prog w base spare held n 3 (List.take (Tryz.prog.cellsOf 3) [c8, c9]) = some y8 := hf 8 _ rfl
  have g9 : DataW.trod enc Tryz.prog w base spare held n 57 (List.take (Tryz.prog.cellsOf 57) [c9]) = some y9 := hf 9 _ rfl
  rw [k3] at g0 g1 g2 g3 g6 g7 g8
  rw [kd] at g4
  rw [kp] at g5
  rw [kf] at g9
  have hb : Rows.uptoBulk y4.1 + Rows.uptoBulk y5.1 + Rows.uptoBulk y9.1 ≤ 1048576 := by
    rw [hx] at hsm
    simp only [bulks.agg_eq, List.map_cons, List.map_nil, bulks.all_cons, bulks.all_nil] at hsm
    omega
  obtain ⟨a0, e0, _⟩ := openb_int g0
  obtain ⟨a1, e1, _⟩ := openb_int g1
  obtain ⟨a2, e2, _⟩ := openb_int g2
  obtain ⟨a3, e3, _⟩ := openb_int g3
  obtain ⟨da, nd, dc, data, e4, hdl, hdc, hdb, _, hdr⟩ := open_rowb B8 Tryz.underlying26 kb decb_byte g4
  obtain ⟨pa, np, pc, pl, e5, hpl, hpc, hpb, hpk, hpr⟩ := openb_plan g5
  obtain ⟨a6, e6, h6⟩ := openb_int g6
  obtain ⟨a7, e7, _⟩ := openb_int g7
  obtain ⟨a8, e8, _⟩ := openb_int g8
  obtain ⟨fa, fn, fc, pr, nd', cr, dirs, pcu, nc, cc, cuts, e9, hfl, hnc, hfk⟩ := openb_fates g9 (by omega)
  subst hdl hpl
  refine ⟨⟨a0, a1, a2, a3, data, pl, a6, a7, a8⟩, ⟨da, dc, pa, pc, fa, fn, fc⟩, ?_, ⟨hpr, fun ad e h => .inl (hpk ad e h), by show pl.length ≤ _; omega, hdr, fun ad e h => .inl (reads_lt hdr ad e h), by show data.length ≤ _; omega, hdc, h6, ⟨pr, nd', cr, dirs, pcu, nc, cc, cuts, hfl, by omega⟩⟩, hfk⟩
  subst e0 e1 e2 e3 e4 e5 e6 e7 e8 e9
  rfl
theorem ActIn.place0 {w : World} {h : Nat} {Av : Nat → Prop} {x : PAct} {L : ALay} (hi : ActIn w h Av x L) : ActIn w h Av { x with place := 0 } L := ⟨hi.pr, hi.pa, hi.pn, hi.dr, hi.da, hi.dn, hi.dc, hi.rr, hi.ft⟩

/-- A step, opened. -/
theorem openb_step {fuel : Nat} {cs : List Value} {x : DataW H × List MemPlace} (h : DataW.trod enc Tryz.prog w base spare held fuel 61 cs = some x) (hsm : Rows.uptoBulk x.1 ≤ 1048576) :
    ∃ a L, cs = (stepCells a L).toList ∧ StepIn w w.heap.size (fun _ => False) a L ∧ ActIn w w.heap.size (fun _ => False) { a.act with place := 0 } L.al ∧ (∀ ad, L.al.fa = some ad → 0 < L.al.fn → ad.block < w.heap.size) := by
  obtain ⟨xs, n, _, hx, hlen, hxl, hf⟩ := DataW.trod_struct Tryz.underlying61 h
  have hc : Tryz.prog.cellsOf 61 = 13 := by kernel_rfl
  rw [hc] at hlen
  obtain ⟨c0, c1, c2, c3, c4, c5, c6, c7, c8, c9, d0, d1, d2, rfl⟩ := len13b hlen
  have k3 : Tryz.prog.cellsOf 3 = 1 := by kernel_rfl
  have ks : Tryz.prog.cellsOf 9 = 1 := by kernel_rfl
  have kd : Tryz.prog.cellsOf 26 = 1 := by kernel_rfl
  have kb : Tryz.prog.cellsOf 5 = 1 := by kernel_rfl
  have ka : Tryz.prog.cellsOf 59 = 10 := by kernel_rfl
  obtain ⟨y0, y1, y2, y3, rfl⟩ := len4b (hxl.trans (by decide))
  have g0 : DataW.trod enc Tryz.prog w base spare held n 3 (List.take (Tryz.prog.cellsOf 3) [c0, c1, c2, c3, c4, c5, c6, c7, c8, c9, d0, d1, d2]) = some y0 := hf 0 _ rfl
  have g1 : DataW.trod enc Tryz.prog w base spare held n 9 (List.take (Tryz.prog.cellsOf 9) [c1, c2, c3, c4, c5, c6, c7, c8, c9, d0, d1, d2]) = some y1 := hf 1 _ rfl
  have g2 : DataW.trod enc Tryz.prog w base spare held n 26 (List.take (Tryz.prog.cellsOf 26) [c2, c3, c4, c5, c6, c7, c8, c9, d0, d1, d2]) = some y2 := hf 2 _ rfl
  have g3 : DataW.trod enc Tryz.prog w base spare held n 59 (List.take (Tryz.prog.cellsOf 59) [c3, c4, c5, c6, c7, c8, c9, d0, d1, d2]) = some y3 := hf 3 _ rfl
  rw [k3] at g0
  rw [ks] at g1
  rw [kd] at g2
  rw [ka] at g3
  have hb : Rows.uptoBulk y1.1 + Rows.uptoBulk y2.1 + Rows.uptoBulk y3.1 ≤ 1048576 := by
    rw [hx] at hsm
    simp only [bulks.agg_eq, List.map_cons, List.map_nil, bulks.all_cons, bulks.all_nil] at hsm
    omega
  obtain ⟨a0, e0, _⟩ := openb_int g0
  obtain ⟨nm, e1, hnm⟩ := openb_text g1
  obtain ⟨da, nd, dc, data, e2, hdl, hdc, hdb, _, hdr⟩ := open_rowb B8 Tryz.underlying26 kb decb_byte g2
  obtain ⟨act, al, e3, hact, hfk⟩ := openb_act g3 (by omega)
  subst hdl
  refine ⟨⟨a0, nm, data, act⟩, ⟨da, dc, al⟩, ?_, ⟨by simp only [maxLen]; omega, hdr, fun ad e h => .inl (reads_lt hdr ad e h), fun ad e h => reads_lt hdr ad e h, by show data.length ≤ _; omega, hdc⟩, hact.place0, hfk⟩
  simp only [List.take] at e3
  rw [e0, e1, e2, e3]
  rfl

/-- Steps, opened. -/
theorem openb_steps {fuel : Nat} {v : Value} {x : DataW H × List MemPlace} (h : DataW.trod enc Tryz.prog w base spare held fuel 52 [v] = some x) (hsm : Rows.uptoBulk x.1 ≤ 1048576) :
    ∃ A n c xs, v = .slice A n c ∧ n = List.length xs ∧ n ≤ c ∧ n ≤ 1048576 ∧ StepsIn w w.heap.size A xs := by
  have hc : Tryz.prog.cellsOf 61 = 13 := by kernel_rfl
  rcases Go.Deep.open_slice Tryz.underlying52 h with ⟨hcs, hx⟩ | ⟨ad, len, cap, m, n, D, Pl, hcs, _, hl, hm, hmm, hx, hcell⟩
  · simp only [List.cons.injEq, and_true] at hcs
    exact ⟨none, 0, 0, [], hcs, rfl, Nat.le_refl _, by omega, ⟨fun j xl h => by simp at h, fun xl h => by simp at h, fun xl h => by simp at h, fun xl h => by simp at h⟩⟩
  · simp only [List.cons.injEq, and_true] at hcs
    have hml : len ≤ m := by rw [hmm]; split <;> omega
    rw [hc] at hcell
    have hD : ∀ i, i < len → Rows.uptoBulk (D i) ≤ 1048576 := fun i hi => by
      have h3 := bulks.part_le (d := D i) (l := (List.range len).map D) (List.mem_map.2 ⟨i, List.mem_range.2 hi, rfl⟩)
      rw [hx] at hsm
      simp only [bulks.slice_eq] at hsm
      omega
    have hlb : len ≤ 1048576 := by
      have h1 := bulks.slice_le (H := H) ((List.range len).map D) ((List.range (m - len)).map fun j => D (len + j))
      rw [hx] at hsm
      have h2 : Rows.uptoBulk (DataW.slice ((List.range len).map D) ((List.range (m - len)).map fun j => D (len + j))) ≤ 1048576 := hsm
      simp only [List.length_map, List.length_range] at h1
      omega
    have : Inhabited (PStp × SLay) := ⟨⟨⟨0, [], [], ⟨0, 0, 0, 0, [], [], 0, 0, 0⟩⟩, ⟨none, 0, ⟨none, 0, none, 0, none, 0, 0⟩⟩⟩⟩
    obtain ⟨B, hB⟩ : ∃ B : Nat → PStp × SLay, ∀ i, i < len → (w.cells? base (ad.add (i * 13)) 13 = some (stepCells (B i).1 (B i).2).toList) ∧ StepIn w w.heap.size (fun _ => False) (B i).1 (B i).2 ∧ ActIn w w.heap.size (fun _ => False) { (B i).1.act with place := 0 } (B i).2.al ∧ (∀ ad, (B i).2.al.fa = some ad → 0 < (B i).2.al.fn → ad.block < w.heap.size) := by
      refine Go.Deep.choose_lt (p := fun i (b : PStp × SLay) => (w.cells? base (ad.add (i * 13)) 13 = some (stepCells b.1 b.2).toList) ∧ StepIn w w.heap.size (fun _ => False) b.1 b.2 ∧ ActIn w w.heap.size (fun _ => False) { b.1.act with place := 0 } b.2.al ∧ (∀ ad, b.2.al.fa = some ad → 0 < b.2.al.fn → ad.block < w.heap.size)) fun i hi => ?_
      obtain ⟨cs', h1, h2⟩ := hcell i (by omega)
      obtain ⟨a, L, rfl, hs, ha, hf⟩ := openb_step h2 (hD i hi)
      exact ⟨(a, L), h1, hs, ha, hf⟩
    have hget : ∀ j xl, ((List.range len).map B)[j]? = some xl → j < len ∧ xl = B j := fun j xl h => by
      have hj : j < len := by
        rcases Nat.lt_or_ge j len with h' | h'
        · exact h'
        · rw [List.getElem?_eq_none (by simpa using h')] at h; cases h
      refine ⟨hj, ?_⟩
      simp [hj] at h
      exact h.symm
    have hmem : ∀ xl ∈ (List.range len).map B, ∃ j, j < len ∧ xl = B j := fun xl h => by
      obtain ⟨j, hj, rfl⟩ := List.mem_map.1 h
      exact ⟨j, List.mem_range.1 hj, rfl⟩
    refine ⟨some ad, len, cap, (List.range len).map B, hcs, by simp, hl, hlb, ⟨fun j xl hxl => ?_, fun xl h => ?_, fun xl h => ?_, fun xl h => ?_⟩⟩
    · obtain ⟨hj, rfl⟩ := hget j xl hxl
      obtain ⟨_, _, h3⟩ := World.cells?_some (hB j hj).1
      have e0 : w.cell? ((ad.add (j * 13)).add 0) = some (.int .i64 (B j).1.kind) := h3 0 (by omega)
      rw [Go.Deep.add_add] at e0
      have hsp : ad.spot = none := by
        obtain ⟨_, _, h30⟩ := World.cells?_some (hB 0 (by omega)).1
        have e00 : w.cell? ((ad.add (0 * 13)).add 0) = some (.int .i64 (B 0).1.kind) := h30 0 (by omega)
        rw [Go.Deep.add_add] at e00
        exact plain_spot0 e00
      obtain ⟨g, o, sp⟩ := ad
      simp only at hsp
      subst hsp
      have hg : g < w.heap.size := by
        have := World.block_lt_of_cell? w _ e0
        rwa [block_of_add] at this
      refine ⟨g, o, rfl, hg, fun i u hu => ?_⟩
      have hi : i < 13 := by
        rcases Nat.lt_or_ge i 13 with h' | h'
        · exact h'
        · rw [Array.getElem?_eq_none (by simpa [stepCells] using h')] at hu; cases hu
      have e := h3 i hi
      rw [Go.Deep.add_add] at e
      have e2 : w.cell? ⟨g, o + (j * 13 + i), none⟩ = (stepCells (B j).1 (B j).2).toList[i]? := by rw [add_plain] at e; exact e
      rw [show o + j * 13 + i = o + (j * 13 + i) by omega, e2, Array.getElem?_toList]
      exact hu
    · obtain ⟨j, hj, rfl⟩ := hmem xl h; exact (hB j hj).2.1
    · obtain ⟨j, hj, rfl⟩ := hmem xl h; exact (hB j hj).2.2.1
    · obtain ⟨j, hj, rfl⟩ := hmem xl h; exact (hB j hj).2.2.2
end
end Go.Proofs.YtdmcjomcbhdcbaaGreat
namespace Go.Proofs.YtdmcjomcbhdcbaaGreat
open Go.RowKit Go.Maps

/-- The files but for one name. -/
def withoutK (fs : List File) (nm : Nm) : List File := fs.filter fun f => !(f.1 == nm)
/-- What a removal shows. -/
theorem remove_shows {S T : Drv} {N : Nat} {x : Int} {nm : Nm} (hS : S.Inv N) (h : S.remove nm = (T, x)) : (∀ s, s ≠ nm → T.shows s = S.shows s) ∧ (x = 0 → T.shows nm = none ∧ S.shows nm ≠ none) ∧ (x ≠ 0 → T = S) ∧ (x = 110 → S.shows nm = none) := by
  unfold Drv.remove at h
  unfold Drv.find at h
  by_cases hn : named nm = false
  · rw [if_pos hn] at h
    injection h with h1 h2
    subst h1 h2
    exact ⟨fun _ _ => rfl, (fun e => by cases e), fun _ => rfl, (fun e => by cases e)⟩
  · rw [if_neg hn] at h
    cases hg : dget S.now nm with
    | none =>
      rw [hg] at h
      injection h with h1 h2
      subst h1 h2
      exact ⟨fun _ _ => rfl, (fun e => by cases e), fun _ => rfl, fun _ => by unfold Drv.shows; rw [hg]; rfl⟩
    | some i =>
      rw [hg] at h
      injection h with h1 h2
      subst h1 h2
      have hd : ∀ s, dget (applyC S.now [(nm, none)]) s = if s = nm then none else dget S.now s := fun s => dget_stp hS.tnow nm none s
      have hsh : ∀ s, (S.change [(nm, none)]).shows s = if s = nm then none else S.shows s := fun s => by
        unfold Drv.shows
        rw [change_cont, change_now, hd]
        split
        · rfl
        · rfl
      refine ⟨fun s hs => by rw [hsh, if_neg hs], fun _ => ⟨by rw [hsh, if_pos rfl], ?_⟩, fun e => absurd rfl e, (fun e => by cases e)⟩
      unfold Drv.shows
      rw [hg]
      exact fun e => by cases e
/-- Two drives of one face: what differs is safe in one and not in the other, or pending. -/
structure Face (S T : Drv) : Prop where
  now : T.now = S.now
  room : T.room = S.room
  used : T.used = S.used
  nb : T.bodies.length = S.bodies.length
  dat : ∀ i, (T.body i).data = (S.body i).data
namespace Face
variable {S T : Drv}
theorem len (h : Face S T) (i : Nat) : T.len i = S.len i := by unfold Drv.len; rw [h.dat]
theorem lenO (h : Face S T) (o : Option Nat) : T.lenO o = S.lenO o := by
  cases o with
  | none => rfl
  | some i => show (T.len i : Int) = S.len i; rw [h.len]
theorem shows (h : Face S T) (s : Nm) : T.shows s = S.shows s := by
  unfold Drv.shows
  rw [h.now]
  cases dget S.now s with
  | none => rfl
  | some i => show some (T.body i).data = some (S.body i).data; rw [h.dat]
theorem find (h : Face S T) (s : Nm) : T.find s = S.find s := by unfold Drv.find; rw [h.now]
theorem chStp (h : Face S T) (s : Stp) : Face (S.chStp s) (T.chStp s) :=
  ⟨by show applyStp T.now s = _; rw [h.now]; rfl, h.room, by show T.used - T.lenO (dget T.now s.1) + T.lenO s.2 = _; rw [h.used, h.lenO, h.lenO, h.now]; rfl, h.nb, h.dat⟩
theorem chAll : ∀ (c : List Stp) {S T : Drv}, Face S T → Face (S.chAll c) (T.chAll c)
  | [], _, _, h => h
  | s :: c, _, _, h => chAll c (h.chStp s)
theorem change (h : Face S T) (c : List Stp) : Face (S.change c) (T.change c) := by
  have h1 := chAll c h
  exact ⟨h1.now, h1.room, h1.used, h1.nb, h1.dat⟩
theorem setBody (h : Face S T) (i : Nat) (B C : Body) (e : C.data = B.data) : Face (S.setBody i B) (T.setBody i C) := by
  refine ⟨h.now, h.room, h.used, by rw [Drv.setBody_length, Drv.setBody_length, h.nb], fun j => ?_⟩
  by_cases hj : j = i
  · subst hj
    rcases Nat.lt_or_ge j S.bodies.length with hl | hl
    · rw [Drv.setBody_same S hl, Drv.setBody_same T (by rw [h.nb]; exact hl), e]
    · have e1 : S.setBody j B = S := by unfold Drv.setBody; rw [List.set_eq_of_length_le hl]
      have e2 : T.setBody j C = T := by unfold Drv.setBody; rw [List.set_eq_of_length_le (by rw [h.nb]; exact hl)]
      rw [e1, e2]; exact h.dat j
  · rw [Drv.setBody_other S hj, Drv.setBody_other T hj]; exact h.dat j
theorem create (h : Face S T) (s : Nm) : Face (S.create s).1 (T.create s).1 ∧ (T.create s).2 = (S.create s).2 := by
  unfold Drv.create
  rw [h.now]
  split
  · exact ⟨h, rfl⟩
  · split
    · exact ⟨h, rfl⟩
    · have h1 : Face ({ S with bodies := S.bodies ++ [⟨[], 0⟩] } : Drv) ({ T with bodies := T.bodies ++ [⟨[], 0⟩] } : Drv) := by
        refine ⟨h.now, h.room, h.used, by simp [h.nb], fun i => ?_⟩
        show ((T.bodies ++ [(⟨[], 0⟩ : Body)]).getD i ⟨[], 0⟩).data = ((S.bodies ++ [(⟨[], 0⟩ : Body)]).getD i ⟨[], 0⟩).data
        have hd := h.dat i
        unfold Drv.body at hd
        rcases Nat.lt_trichotomy i S.bodies.length with hl | hl | hl
        · rw [List.getD, List.getD, List.getElem?_append_left hl, List.getElem?_append_left (by rw [h.nb]; exact hl)]
          exact hd
        · subst hl
          rw [List.getD, List.getD, List.getElem?_append_right (Nat.le_refl _), List.getElem?_append_right (by rw [h.nb]; exact Nat.le_refl _), h.nb]
        · rw [List.getD, List.getD, List.getElem?_eq_none (by have := h.nb; simp; omega), List.getElem?_eq_none (by have := h.nb; simp; omega)]
      have h2 := h1.change [(s, some S.bodies.length)]
      refine ⟨?_, rfl⟩
      show Face _ (({ T with bodies := T.bodies ++ [⟨[], 0⟩], now := S.now } : Drv).change [(s, some T.bodies.length)])
      rw [h.nb]
      have e : ({ T with bodies := T.bodies ++ [⟨[], 0⟩], now := S.now } : Drv) = ({ T with bodies := T.bodies ++ [⟨[], 0⟩] } : Drv) := by rw [← h.now]
      rw [e]
      exact h2
theorem append (h : Face S T) (s : Nm) (d : List UInt8) : Face (S.append s d).1 (T.append s d).1 ∧ (T.append s d).2 = (S.append s d).2 := by
  unfold Drv.append
  rw [h.find, h.room, h.used]
  split
  · exact ⟨h, rfl⟩
  · split
    · exact ⟨h, rfl⟩
    · split
      · exact ⟨h, rfl⟩
      · rename_i i _ _ _ _
        have h1 := h.setBody i ⟨(S.body i).data ++ d, (S.body i).safe⟩ ⟨(T.body i).data ++ d, (T.body i).safe⟩ (by rw [h.dat])
        exact ⟨⟨h1.now, h1.room, rfl, h1.nb, h1.dat⟩, rfl⟩
theorem sync (h : Face S T) (s : Nm) : Face (S.sync s).1 (T.sync s).1 ∧ (T.sync s).2 = (S.sync s).2 := by
  unfold Drv.sync
  rw [h.find]
  split
  · exact ⟨h, rfl⟩
  · rename_i i _ _
    exact ⟨h.setBody i _ _ (h.dat i), rfl⟩
theorem rename (h : Face S T) (a b : Nm) : Face (S.rename a b).1 (T.rename a b).1 ∧ (T.rename a b).2 = (S.rename a b).2 := by
  unfold Drv.rename
  rw [h.find]
  split
  · exact ⟨h, rfl⟩
  · split
    · exact ⟨h, rfl⟩
    · split
      · exact ⟨h, rfl⟩
      · exact ⟨h.change _, rfl⟩
theorem syncDir (h : Face S T) : Face S.syncDir T.syncDir := ⟨h.now, h.room, h.used, h.nb, h.dat⟩
theorem wcall {f g : Drv × Int} (h : Face S T) (hf : Face f.1 g.1) (he : g.2 = f.2) (X : Wnd) (may : Bool) :
    (Go.Proofs.YtdmcjomcbhdcbaaGreat.wcall X T may g).1 = (Go.Proofs.YtdmcjomcbhdcbaaGreat.wcall X S may f).1 ∧ Face (Go.Proofs.YtdmcjomcbhdcbaaGreat.wcall X S may f).2.1 (Go.Proofs.YtdmcjomcbhdcbaaGreat.wcall X T may g).2.1 ∧ (Go.Proofs.YtdmcjomcbhdcbaaGreat.wcall X T may g).2.2 = (Go.Proofs.YtdmcjomcbhdcbaaGreat.wcall X S may f).2.2 := by
  unfold Go.Proofs.YtdmcjomcbhdcbaaGreat.wcall
  split
  · exact ⟨rfl, hf, he⟩
  · exact ⟨rfl, h, rfl⟩
theorem wappend (h : Face S T) (X : Wnd) (s : Nm) (bs : List UInt8) :
    (Go.Proofs.YtdmcjomcbhdcbaaGreat.wappend X T s bs).1 = (Go.Proofs.YtdmcjomcbhdcbaaGreat.wappend X S s bs).1 ∧ Face (Go.Proofs.YtdmcjomcbhdcbaaGreat.wappend X S s bs).2.1 (Go.Proofs.YtdmcjomcbhdcbaaGreat.wappend X T s bs).2.1 ∧ (Go.Proofs.YtdmcjomcbhdcbaaGreat.wappend X T s bs).2.2 = (Go.Proofs.YtdmcjomcbhdcbaaGreat.wappend X S s bs).2.2 := by
  unfold Go.Proofs.YtdmcjomcbhdcbaaGreat.wappend
  split
  · exact ⟨rfl, (h.append s bs).1, (h.append s bs).2⟩
  · split
    · exact ⟨rfl, (h.append s _).1, rfl⟩
    · exact ⟨rfl, h, rfl⟩
theorem awStep (h : Face S T) (X : Wnd) (nm : Nm) (bs : List UInt8) (i : Nat) :
    (Go.Proofs.YtdmcjomcbhdcbaaGreat.awStep nm bs (X, T) i).1 = (Go.Proofs.YtdmcjomcbhdcbaaGreat.awStep nm bs (X, S) i).1 ∧ Face (Go.Proofs.YtdmcjomcbhdcbaaGreat.awStep nm bs (X, S) i).2.1 (Go.Proofs.YtdmcjomcbhdcbaaGreat.awStep nm bs (X, T) i).2.1 ∧ (Go.Proofs.YtdmcjomcbhdcbaaGreat.awStep nm bs (X, T) i).2.2 = (Go.Proofs.YtdmcjomcbhdcbaaGreat.awStep nm bs (X, S) i).2.2 := by
  unfold Go.Proofs.YtdmcjomcbhdcbaaGreat.awStep
  split
  · exact h.wcall (h.create _).1 (h.create _).2 X true
  · exact h.wappend X _ _
  · exact h.wcall (h.sync _).1 (h.sync _).2 X false
  · exact h.wcall (h.rename _ _).1 (h.rename _ _).2 X false
  · exact h.wcall (f := (S.syncDir, 0)) (g := (T.syncDir, 0)) h.syncDir rfl X false
theorem awFrom (nm : Nm) (bs : List UInt8) : ∀ (n k : Nat) (X : Wnd) {S T : Drv}, Face S T →
    (Go.Proofs.YtdmcjomcbhdcbaaGreat.awFrom nm bs n k (X, T)).1 = (Go.Proofs.YtdmcjomcbhdcbaaGreat.awFrom nm bs n k (X, S)).1 ∧ Face (Go.Proofs.YtdmcjomcbhdcbaaGreat.awFrom nm bs n k (X, S)).2.1 (Go.Proofs.YtdmcjomcbhdcbaaGreat.awFrom nm bs n k (X, T)).2.1 ∧ (Go.Proofs.YtdmcjomcbhdcbaaGreat.awFrom nm bs n k (X, T)).2.2 = (Go.Proofs.YtdmcjomcbhdcbaaGreat.awFrom nm bs n k (X, S)).2.2
  | 0, _, _, _, _, h => ⟨rfl, h, rfl⟩
  | n + 1, k, X, S, T, h => by
    obtain ⟨h1, h2, h3⟩ := h.awStep X nm bs k
    unfold Go.Proofs.YtdmcjomcbhdcbaaGreat.awFrom
    rw [h1, h3]
    split
    · exact awFrom nm bs n (k + 1) _ h2
    · exact ⟨h1, h2, h3⟩
end Face

/-- The drive with all that it shows safe. -/
def Drv.settle (S : Drv) : Drv := { S with bodies := S.bodies.map fun b => ⟨b.data, b.data.length⟩, kept := S.now, pending := [] }
/-- What a writing leaves in the names. -/
structure ShowsEnd (X : Wnd) (S : Drv) (nm : Nm) (bs : List UInt8) (Y : Wnd) (T : Drv) (x : Int) : Prop where
  others : ∀ s, s ≠ tmpN → s ≠ nm → T.shows s = S.shows s
  cnt : ∃ n : Nat, n ≤ 5 ∧ Y.calls = X.calls + n ∧ (n ≤ 4 → x ≠ 0 ∧ T.shows nm = S.shows nm) ∧ (n = 5 → T.shows nm = some bs)
  ok : x = 0 → T.shows nm = some bs
theorem scan_ne (may : Bool) (k : Int) : ∀ l, Wnd.scan may k l ≠ 110
  | [] => by unfold Wnd.scan; decide
  | f :: r => by
    unfold Wnd.scan
    split
    · split
      · decide
      · split
        · decide
        · decide
    · exact scan_ne may k r
theorem struck_ne (X : Wnd) (may : Bool) : (X.struck may).2.1 ≠ 110 := by
  unfold Wnd.struck
  split
  · exact fun h => by cases h
  · split
    · exact fun h => by cases h
    · split
      · exact fun h => by cases h
      · exact scan_ne may _ _
/-- What a removal leaves in the names, whatever strikes. -/
theorem aremove_shows {X Y : Wnd} {S T : Drv} {nm : Nm} {x : Int} {c N r : Nat} (hK : Kept X S c N r) (hy : aremove X S nm = (Y, T, x)) :
    (∀ s, s ≠ nm → T.shows s = S.shows s) ∧ (T.shows nm = S.shows nm ∨ T.shows nm = none) ∧ (x = 0 → T.shows nm = none) := by
  obtain ⟨X1, S1, x1, h1⟩ : ∃ a b c, wcall X S false (S.remove nm) = (a, b, c) := ⟨_, _, _, rfl⟩
  obtain ⟨Sr, xr, hr⟩ : ∃ a b, S.remove nm = (a, b) := ⟨_, _, rfl⟩
  obtain ⟨r1, r2, r3, r4⟩ := remove_shows hK.drv hr
  have hc := (wcall_cases h1).2
  rw [hr] at hc
  simp only at hc
  have a1 : (∀ s, s ≠ nm → S1.shows s = S.shows s) ∧ (S1.shows nm = S.shows nm ∨ S1.shows nm = none) := by
    rcases hc with ⟨e, e2, _⟩ | ⟨e, _, _⟩
    · rw [e]
      refine ⟨r1, ?_⟩
      by_cases h0 : xr = 0
      · exact .inr (r2 h0).1
      · rw [r3 h0]; exact .inl rfl
    · rw [e]; exact ⟨fun _ _ => rfl, .inl rfl⟩
  unfold aremove at hy
  rw [h1] at hy
  simp only at hy
  split at hy
  · rename_i h0
    simp only [Prod.mk.injEq] at hy
    obtain ⟨rfl, rfl, rfl⟩ := hy
    exact ⟨a1.1, a1.2, fun e => absurd e h0.1⟩
  · rename_i h0
    have hc2 := (wcall_cases hy).2
    have hsh : ∀ s, T.shows s = S1.shows s := fun s => by
      rcases hc2 with ⟨e, _, _⟩ | ⟨e, _, _⟩
      · rw [e]; rfl
      · rw [e]
    refine ⟨fun s hs => (hsh s).trans (a1.1 s hs), by rw [hsh]; exact a1.2, fun _ => ?_⟩
    rw [hsh]
    have h01 : x1 = 0 ∨ x1 = 110 := by
      by_cases h2 : x1 = 0
      · exact .inl h2
      · exact .inr (Decidable.not_not.1 fun h3 => h0 ⟨h2, h3⟩)
    rcases hc with ⟨e, e2, _⟩ | ⟨e, e2, e3⟩
    · rw [e]
      rcases h01 with h2 | h2
      · exact (r2 (by rw [← e2, h2])).1
      · have h3 : xr = 110 := by rw [← e2, h2]
        rw [r3 (by omega)]
        exact r4 h3
    · rcases h01 with h2 | h2
      · exact absurd h2 e2
      · exact absurd (e3.symm.trans h2) (struck_ne X false)
end Go.Proofs.YtdmcjomcbhdcbaaGreat
namespace Go.Proofs.YtdmcjomcbhdcbaaGreat
open Go.RowKit Go.Maps

end Go.Proofs.YtdmcjomcbhdcbaaGreat
