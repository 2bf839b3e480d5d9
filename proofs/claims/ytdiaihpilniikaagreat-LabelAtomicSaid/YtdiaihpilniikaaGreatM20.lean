/- What stands on a drive (a Stand), opened.; What is done with a wound on its drive; a wound and its drive above a place of the memory.; Load: a drive that holds files, all of it safe. -/
import Derived.Test.YtdiaihpilniikaaGreatM19
import Derived.Test.YtdiaihpilniikaaGreatM11
import Derived.Maps.OwnSet
import Derived.Deep.DeepCutAuto
import Derived.Deep.RegionHeld3
namespace Go.Proofs.YtdiaihpilniikaaGreat
open Go.ChangeShapes Go.WideShapes Go.ChangeAt Go.RowKit Go.Maps

theorem len2 {α : Type} {l : List α} (h : l.length = 2) : ∃ a b, l = [a, b] := by
  match l, h with
  | [a, b], _ => exact ⟨a, b, rfl⟩
theorem len5 {α : Type} {l : List α} (h : l.length = 5) : ∃ a b c d e, l = [a, b, c, d, e] := by
  match l, h with
  | [a, b, c, d, e], _ => exact ⟨a, b, c, d, e, rfl⟩
theorem len17 {α : Type} {l : List α} (h : l.length = 17) : ∃ c0 c1 c2 c3 c4 c5 c6 c7 c8 c9 c10 c11 c12 c13 c14 c15 c16, l = [c0, c1, c2, c3, c4, c5, c6, c7, c8, c9, c10, c11, c12, c13, c14, c15, c16] := by
  match l, h with
  | [c0, c1, c2, c3, c4, c5, c6, c7, c8, c9, c10, c11, c12, c13, c14, c15, c16], _ => exact ⟨c0, c1, c2, c3, c4, c5, c6, c7, c8, c9, c10, c11, c12, c13, c14, c15, c16, rfl⟩

section
variable {H : Type} {enc : TypeId × Value → H} {w : World} {base : Nat} {spare : Nat → Bool} {held : Bool}
theorem dec_bool (n : Nat) (V : Value) (d : DataW H × List MemPlace) (h : DataW.trod enc Tryz.prog w base spare held n 4 [V] = some d) : ∃ b, V = boolV b := by
  obtain ⟨b, hz, _⟩ := DataW.trod_bool Tryz.underlying4 h
  simp only [List.cons.injEq, and_true] at hz
  exact ⟨b, hz⟩
theorem open_fault {fuel : Nat} {cs : List Value} {x : DataW H × List MemPlace} (h : DataW.trod enc Tryz.prog w base spare held fuel 120 cs = some x) : ∃ f : Int × Int, cs = [.int .i64 f.1, .int .i64 f.2] := by
  obtain ⟨xs, n, _, _, hlen, hxl, hf⟩ := DataW.trod_struct Tryz.underlying120 h
  have hc : Tryz.prog.cellsOf 120 = 2 := by kernel_rfl
  rw [hc] at hlen
  obtain ⟨c0, c1, rfl⟩ := len2 hlen
  have h3 : Tryz.prog.cellsOf 3 = 1 := by kernel_rfl
  obtain ⟨y0, y1, rfl⟩ := len2 (hxl.trans (by decide))
  have g0 : DataW.trod enc Tryz.prog w base spare held n 3 (List.take (Tryz.prog.cellsOf 3) [c0, c1]) = some y0 := hf 0 _ rfl
  have g1 : DataW.trod enc Tryz.prog w base spare held n 3 (List.take (Tryz.prog.cellsOf 3) [c1]) = some y1 := hf 1 _ rfl
  rw [h3] at g0 g1
  obtain ⟨a, ha, _⟩ := DataW.trod_int Tryz.underlying3 g0
  obtain ⟨b, hb, _⟩ := DataW.trod_int Tryz.underlying3 g1
  simp at ha hb
  exact ⟨(a, b), by rw [ha, hb]⟩

theorem open_plan {fuel : Nat} {v : Value} {x : DataW H × List MemPlace} (h : DataW.trod enc Tryz.prog w base spare held fuel 28 [v] = some x) (hall : ∀ k ∈ x.1.weights Tryz.prog 28, k ≤ reachBytes) :
    ∃ A n c l, v = .slice A n c ∧ List.length l = n ∧ n ≤ c ∧ n * 16 ≤ reachBytes ∧ Reads w w.heap.size 2 A n (planCells l) := by
  have hc : Tryz.prog.cellsOf 120 = 2 := by kernel_rfl
  have hb : Tryz.prog.bytesOf 120 = 16 := by kernel_rfl
  rcases Go.Deep.open_slice Tryz.underlying28 h with ⟨hcs, _⟩ | ⟨ad, len, cap, m, n, D, Pl, hcs, _, hl, hm, hmm, hx, hcell⟩
  · simp only [List.cons.injEq, and_true] at hcs
    exact ⟨none, 0, 0, [], hcs, rfl, Nat.le_refl _, by omega, Reads.none_⟩
  · simp only [List.cons.injEq, and_true] at hcs
    have hml : len ≤ m := by rw [hmm]; split <;> omega
    rw [hc] at hcell
    obtain ⟨B, hB⟩ : ∃ B : Nat → Int × Int, ∀ i, i < len → w.cell? (ad.add (i * 2)) = some (.int .i64 (B i).1) ∧ w.cell? (ad.add (i * 2 + 1)) = some (.int .i64 (B i).2) :=
      Go.Deep.choose_lt (p := fun i (b : Int × Int) => w.cell? (ad.add (i * 2)) = some (.int .i64 b.1) ∧ w.cell? (ad.add (i * 2 + 1)) = some (.int .i64 b.2)) fun i hi => by
        obtain ⟨cs', h1, h2⟩ := hcell i (by omega)
        obtain ⟨f, rfl⟩ := open_fault h2
        obtain ⟨_, _, h3⟩ := World.cells?_some h1
        have e0 := h3 0 (by omega)
        have e1 := h3 1 (by omega)
        rw [Go.Deep.add_add] at e0 e1
        exact ⟨f, e0, e1⟩
    have hpl : ∀ k, (planCells ((List.range k).map B)).length = k * 2 := fun k => by rw [planCells_length]; simp
    refine ⟨some ad, len, cap, (List.range len).map B, hcs, by simp, hl, ?_, hpl len, fun hn => ⟨ad, rfl, ?_, fun j u hu => ?_⟩⟩
    · have := hall ((((List.range len).map D).length + ((List.range (m - len)).map fun j => D (len + j)).length) * Tryz.prog.bytesOf 120) (by rw [hx]; simp [DataW.weights, Tryz.underlying28])
      simp only [List.length_map, List.length_range, hb] at this
      exact Nat.le_trans (Nat.mul_le_mul_right _ (by omega)) this
    · have h0 := (hB 0 (by omega)).1
      have := World.block_lt_of_cell? w _ h0
      rwa [block_of_add] at this
    · have hj : j < len * 2 := by
        rcases Nat.lt_or_ge j (len * 2) with h | h
        · exact h
        · rw [List.getElem?_eq_none (by rw [hpl]; exact h)] at hu; cases hu
      have hk : j / 2 < len := by omega
      have hg : ((List.range len).map B)[j / 2]? = some (B (j / 2)) := by simp [hk]
      obtain ⟨p0, p1⟩ := plan_get _ _ _ hg
      obtain ⟨q0, q1⟩ := hB _ hk
      rcases Nat.mod_two_eq_zero_or_one j with h | h
      · have e : j = j / 2 * 2 := by omega
        rw [e] at hu ⊢
        rw [p0] at hu; rw [q0, hu]
      · have e : j = j / 2 * 2 + 1 := by omega
        rw [e] at hu ⊢
        rw [p1] at hu; rw [q1, hu]


theorem open_stand {fuel : Nat} {cs : List Value} {y : DataW H × List MemPlace} (h : DataW.trod enc Tryz.prog w base spare held fuel 30 cs = some y) (hall : ∀ k ∈ y.1.weights Tryz.prog 30, k ≤ reachBytes) :
    ∃ hs A n c bs l B m d pl aw, cs = [.bool hs, .slice A n c] ++ (labCells l).toList ++ [.slice B m d, .bool aw] ∧ l.Wf ∧ Reads w w.heap.size 1 A n (List.map B8 bs) ∧ n ≤ c ∧ n ≤ 140737488351232 ∧ Reads w w.heap.size 2 B m (planCells pl) ∧ m * 16 ≤ 140737488351232 := by
  obtain ⟨xs, n, _, hy, hlen, hxl, hf⟩ := DataW.trod_struct Tryz.underlying30 h
  have hc : Tryz.prog.cellsOf 30 = 17 := by kernel_rfl
  rw [hc] at hlen
  obtain ⟨c0, c1, c2, c3, c4, c5, c6, c7, c8, c9, c10, c11, c12, c13, c14, c15, c16, rfl⟩ := len17 hlen
  have k4 : Tryz.prog.cellsOf 4 = 1 := by kernel_rfl
  have k22 : Tryz.prog.cellsOf 22 = 1 := by kernel_rfl
  have kl : Tryz.prog.cellsOf 27 = 13 := by kernel_rfl
  have k47 : Tryz.prog.cellsOf 28 = 1 := by kernel_rfl
  have b5 : Tryz.prog.bytesOf 5 = 1 := by kernel_rfl
  have k5 : Tryz.prog.cellsOf 5 = 1 := by kernel_rfl
  obtain ⟨y0, y1, y2, y3, y4, rfl⟩ := len5 (hxl.trans (by decide))
  have g0 : DataW.trod enc Tryz.prog w base spare held n 4 (List.take (Tryz.prog.cellsOf 4) [c0, c1, c2, c3, c4, c5, c6, c7, c8, c9, c10, c11, c12, c13, c14, c15, c16]) = some y0 := hf 0 _ rfl
  have g1 : DataW.trod enc Tryz.prog w base spare held n 22 (List.take (Tryz.prog.cellsOf 22) [c1, c2, c3, c4, c5, c6, c7, c8, c9, c10, c11, c12, c13, c14, c15, c16]) = some y1 := hf 1 _ rfl
  have g2 : DataW.trod enc Tryz.prog w base spare held n 27 (List.take (Tryz.prog.cellsOf 27) [c2, c3, c4, c5, c6, c7, c8, c9, c10, c11, c12, c13, c14, c15, c16]) = some y2 := hf 2 _ rfl
  have g3 : DataW.trod enc Tryz.prog w base spare held n 28 (List.take (Tryz.prog.cellsOf 28) [c15, c16]) = some y3 := hf 3 _ rfl
  have g4 : DataW.trod enc Tryz.prog w base spare held n 4 (List.take (Tryz.prog.cellsOf 4) [c16]) = some y4 := hf 4 _ rfl
  rw [k4] at g0
  rw [k22] at g1
  rw [kl] at g2
  rw [k47] at g3
  rw [k4] at g4
  have hw : ∀ (j : Nat) (t : TypeId) (d : DataW H), ([4, 22, 27, 28, 4] : List TypeId)[j]? = some t → ([y0.1, y1.1, y2.1, y3.1, y4.1] : List (DataW H))[j]? = some d → ∀ k ∈ d.weights Tryz.prog t, k ≤ reachBytes := fun j t d ht hd k hk =>
    hall k (by rw [hy]; simp only [DataW.weights, Tryz.underlying30]; exact DataW.weights_mem_each ht hd k hk)
  obtain ⟨a0, e0, _⟩ := DataW.trod_bool Tryz.underlying4 g0
  obtain ⟨pd, nd, cd, ld, e1, hld, hcd, hbd, hrd⟩ := open_row B8 Tryz.underlying22 k5 dec_byte g1 (hw 1 _ _ rfl rfl)
  obtain ⟨l, e2, hl⟩ := open_lab g2
  obtain ⟨pp, np, cp, lp, e3, hlp, hcp, hbp, hrp⟩ := open_plan g3 (hw 3 _ _ rfl rfl)
  obtain ⟨a4, e4, _⟩ := DataW.trod_bool Tryz.underlying4 g4
  have e2' : [c2, c3, c4, c5, c6, c7, c8, c9, c10, c11, c12, c13, c14] = (labCells l).toList := e2
  simp only [List.take, List.cons.injEq, and_true] at e0 e4
  rw [b5] at hbd
  unfold reachBytes at hbd hbp
  refine ⟨a0, pd, nd, cd, ld, l, pp, np, cp, lp, a4, ?_, hl, hrd, hcd, by omega, hrp, by omega⟩
  rw [← e2']
  subst e0 e4
  simp only [List.cons_append, List.nil_append, ← e1, ← e3]
end
end Go.Proofs.YtdiaihpilniikaaGreat
namespace Go.Proofs.YtdiaihpilniikaaGreat
open Go.RowKit Go.Maps
theorem WD.below {w W : World} {q p : Nat} {X : Wnd} {S : Drv} {F : Nat → Prop} (h : WD w q p X S F) (hb : Below w.heap.size w W) : WD W q p X S F :=
  h.keep (Touch.of_below (F := fun _ => False) hb) fun _ _ h => h
theorem dr_lt {w : World} {p : Nat} {S : Drv} {F : Nat → Prop} (h : Dr w p S F) : Dr w p S fun k => F k ∧ k < w.heap.size := by
  obtain ⟨addr, L, e, hD, hF⟩ := h
  exact ⟨addr, L, e, hD, fun k hk => ⟨hF k hk, hD.foot_lt hk⟩⟩


section
variable {w w1 : World} {q p : Nat} {X Y : Wnd} {S T : Drv} {F FW FD : Nat → Prop}
theorem control_end (h : Apart w q p X S FW FD) (hF : ∀ k, FW k ∨ FD k → F k) (hw : Wn w1 q (.pointer (some ⟨p, 0, none⟩)) Y (grow FW w w1)) (ht : Touch FW w w1) :
    WD w1 q p Y S (grow F w w1) ∧ Touch F w w1 := by
  refine ⟨⟨grow FW w w1, FD, ⟨hw, h.dr.keep ht fun k hd hw => h.no k hw hd, fun k hk => ?_, fun k hk => Nat.lt_of_lt_of_le (h.dlt k hk) ht.size, fun k hk hd => ?_⟩, fun k hk => ?_⟩, ht.mono fun k _ hk => hF k (.inl hk)⟩
  · rcases hk with hk | hk
    · exact Nat.lt_of_lt_of_le (h.wlt k hk) ht.size
    · exact hk.2
  · rcases hk with hk | hk
    · exact h.no k hk hd
    · have := h.dlt k hd; omega
  · rcases hk with (hk | hk) | hk
    · exact .inl (hF k (.inl hk))
    · exact .inr hk
    · exact .inl (hF k (.inr hk))
theorem WD.wn (h : WD w q p X S F) : Wn w q (.pointer (some ⟨p, 0, none⟩)) X F := by
  obtain ⟨FW, FD, h, hF⟩ := h
  exact h.wn.mono fun k hk => hF k (.inl hk)
theorem WD.dr (h : WD w q p X S F) : Dr w p S F := by
  obtain ⟨FW, FD, h, hF⟩ := h
  exact h.dr.mono fun k hk => hF k (.inr hk)
theorem WD.lt (h : WD w q p X S F) : WD w q p X S fun k => F k ∧ k < w.heap.size := by
  obtain ⟨FW, FD, h, hF⟩ := h
  refine ⟨FW, FD, h, fun k hk => ⟨hF k hk, ?_⟩⟩
  rcases hk with hk | hk
  · exact h.wlt k hk
  · exact h.dlt k hk
end

theorem wpower_any (q p : Nat) (X : Wnd) (S : Drv) (F : Nat → Prop) (on : Bool) (w : World) (h : WD w q p X S F) :
    Calls Tryz.prog 25 #[.pointer (some ⟨q, 0, none⟩), .bool on] w fun e w' => e = .returned (.tuple #[]) ∧ WD w' q p { X with down := !on } S (grow F w w') ∧ Touch F w w' := by
  obtain ⟨FW, FD, hA, hF⟩ := h
  refine (power_any q _ X FW on w hA.wn).mono ?_
  rintro e w' ⟨he, hw, ht⟩
  exact ⟨he, control_end hA hF (hw.mono fun k hk => .inl hk) ht⟩
theorem woffline_any (q p : Nat) (X : Wnd) (S : Drv) (F : Nat → Prop) (off : Bool) (w : World) (h : WD w q p X S F) :
    Calls Tryz.prog 10 #[.pointer (some ⟨q, 0, none⟩), .bool off] w fun e w' => e = .returned (.tuple #[]) ∧ WD w' q p { X with away := off } S (grow F w w') ∧ Touch F w w' := by
  obtain ⟨FW, FD, hA, hF⟩ := h
  refine (offline_any q _ X FW off w hA.wn).mono ?_
  rintro e w' ⟨he, hw, ht⟩
  exact ⟨he, control_end hA hF (hw.mono fun k hk => .inl hk) ht⟩
theorem wrest_any (q p : Nat) (X : Wnd) (S : Drv) (F : Nat → Prop) (off : Bool) (w : World) (h : WD w q p X S F) (hX : X.Ok) :
    Calls Tryz.prog 22 #[.pointer (some ⟨q, 0, none⟩), .bool off] w fun e w' => e = .returned (.tuple #[]) ∧ WD w' q p (X.rest off) S (grow F w w') ∧ Touch F w w' := by
  obtain ⟨FW, FD, hA, hF⟩ := h
  refine (rest_any q _ X FW off w hA.wn hX).mono ?_
  rintro e w' ⟨he, hw, ht⟩
  exact ⟨he, control_end hA hF (hw.mono fun k hk => .inl hk) ht⟩
theorem wfuse_any (q p : Nat) (X : Wnd) (S : Drv) (F : Nat → Prop) (r k i : Int) (w : World) (h : WD w q p X S F) :
    Calls Tryz.prog 20 #[.pointer (some ⟨q, 0, none⟩), .int .i64 r, .int .i64 k, .int .i64 i] w fun e w' => e = .returned (.tuple #[]) ∧ WD w' q p (X.setFuse r k i) S (grow F w w') ∧ Touch F w w' := by
  obtain ⟨FW, FD, hA, hF⟩ := h
  refine (fuse_any q _ X FW r k i w hA.wn).mono ?_
  rintro e w' ⟨he, hw, ht⟩
  exact ⟨he, control_end hA hF hw ht⟩
theorem warm_any (q p : Nat) (X : Wnd) (S : Drv) (F : Nat → Prop) (A : Option Addr) (n c : Nat) (l : List (Int × Int)) (w : World) (h : WD w q p X S F) (hr : Reads w w.heap.size 2 A n (planCells l)) (hA : 0 < n → ∀ ad, A = some ad → ¬F ad.block) (hn : n * 16 ≤ 140737488351232) :
    Calls Tryz.prog 9 #[.pointer (some ⟨q, 0, none⟩), .slice A n c] w fun e w' => e = .returned (.tuple #[]) ∧ WD w' q p (X.arm l) S (grow F w w') ∧ Touch F w w' := by
  obtain ⟨FW, FD, hAp, hF⟩ := h
  refine (arm_any q _ X FW A n c l w hAp.wn hr (fun h0 ad e hf => hA h0 ad e (hF _ (.inl hf))) hn).mono ?_
  rintro e w' ⟨he, hw, ht⟩
  exact ⟨he, control_end hAp hF hw ht⟩

/-- A wound and its drive, all of it at h or above. -/
def WDb (w : World) (h q p : Nat) (X : Wnd) (S : Drv) : Prop := WD w q p X S fun k => h ≤ k ∧ k < w.heap.size
theorem WDb.step {w w' : World} {h q p : Nat} {Y : Wnd} {T : Drv} (hh : h ≤ w.heap.size) (hd : WD w' q p Y T (grow (fun k => h ≤ k ∧ k < w.heap.size) w w')) (ht : Touch (fun k => h ≤ k ∧ k < w.heap.size) w w') : WDb w' h q p Y T ∧ Below h w w' :=
  ⟨hd.mono fun k hk => by
    have := ht.size
    rcases hk with hk | hk
    · exact ⟨hk.1, by omega⟩
    · exact ⟨by omega, hk.2⟩, ht.below hh fun k hk => hk.1⟩
theorem WDb.stepF {w w' : World} {h q p : Nat} {Y : Wnd} {T : Drv} {F : Nat → Prop} (hF : ∀ k, F k → h ≤ k ∧ k < w.heap.size) (hh : h ≤ w.heap.size) (hd : WD w' q p Y T (grow F w w')) (ht : Touch F w w') : WDb w' h q p Y T ∧ Below h w w' :=
  ⟨hd.mono fun k hk => by
    have := ht.size
    rcases hk with hk | hk
    · have := hF k hk; exact ⟨this.1, by omega⟩
    · exact ⟨by omega, hk.2⟩, ht.below hh fun k hk => (hF k hk).1⟩
theorem WDb.below {w w' : World} {h q p : Nat} {X : Wnd} {S : Drv} (hd : WDb w h q p X S) (hb : Below w.heap.size w w') : WDb w' h q p X S :=
  (WD.below hd hb).mono fun _ hk => ⟨hk.1, Nat.lt_of_lt_of_le hk.2 hb.size⟩
/-- A drive, all of it at h or above. -/
def Drb (w : World) (h p : Nat) (S : Drv) : Prop := Dr w p S fun k => h ≤ k ∧ k < w.heap.size
theorem Drb.step {w w' : World} {h p : Nat} {T : Drv} (hh : h ≤ w.heap.size) (hd : Dr w' p T (grow (fun k => h ≤ k ∧ k < w.heap.size) w w')) (ht : Touch (fun k => h ≤ k ∧ k < w.heap.size) w w') : Drb w' h p T ∧ Below h w w' :=
  ⟨hd.mono fun k hk => by
    have := ht.size
    rcases hk with hk | hk
    · exact ⟨hk.1, by omega⟩
    · exact ⟨by omega, hk.2⟩, ht.below hh fun k hk => hk.1⟩
theorem Drb.below {w w' : World} {h p : Nat} {S : Drv} (hd : Drb w h p S) (hb : Below w.heap.size w w') : Drb w' h p S :=
  (Dr.below hd hb).mono fun _ hk => ⟨hk.1, Nat.lt_of_lt_of_le hk.2 hb.size⟩

/-- A new drive. -/
theorem newb_any (r : Int) (w : World) (h0 : 0 ≤ r) (h1 : r ≤ 1073741824) :
    Calls Tryz.prog 19 #[.int .i64 r] w fun e w' => ∃ p, e = .returned (.pointer (some ⟨p, 0, none⟩)) ∧ Drb w' w.heap.size p (Drv.new r.toNat) ∧ Below w.heap.size w w' := by
  refine (new_good r w h0 h1).mono ?_
  rintro e w' ⟨rfl, rfl⟩
  have hd := dr_new w r.toNat
  rw [show ((r.toNat : Nat) : Int) = r by omega] at hd
  exact ⟨_, rfl, (dr_lt ⟨_, hd⟩).mono fun k hk => hk, (((Below.refl _ w).alloc (Nat.le_refl _) _).alloc (by simp) _).alloc (by simp; omega) _⟩
/-- A new wound on a drive. -/
theorem wnewb_any (h p : Nat) (S : Drv) (w : World) (hh : h ≤ w.heap.size) (hd : Drb w h p S) :
    Calls Tryz.prog 7 #[.pointer (some ⟨p, 0, none⟩)] w fun e w' => ∃ q, e = .returned (.pointer (some ⟨q, 0, none⟩)) ∧ WDb w' h q p Wnd.new S ∧ Below w.heap.size w w' := by
  refine (wnew_any p w).mono ?_
  rintro e w' ⟨rfl, hw, hb, hs⟩
  refine ⟨_, rfl, ⟨(· = w.heap.size), fun k => h ≤ k ∧ k < w.heap.size, ⟨hw, Dr.below hd hb, fun k hk => by rw [hk, hs]; omega, fun k hk => by have := hk.2; omega, fun k hk hd => by have := hd.2; omega⟩, fun k hk => ?_⟩, hb⟩
  rcases hk with hk | hk
  · rw [hk, hs]; omega
  · rw [hs]; exact ⟨hk.1, by omega⟩
end Go.Proofs.YtdiaihpilniikaaGreat
namespace Go.Proofs.YtdiaihpilniikaaGreat
open Go.RowKit Go.Maps Go.WideElems Go.WideMaps

namespace Drv
/-- One file more, all of it safe. -/
def loadStep (S : Drv) (f : File) : Drv := { S with bodies := S.bodies ++ [⟨f.2, f.2.length⟩], now := S.now.put (key f.1) (num S.bodies.length), kept := S.kept.put (key f.1) (num S.bodies.length), used := S.used + f.2.length }
def loadFits (S : Drv) (f : File) : Bool := named f.1 && !(has S.now (key f.1))
def loadK (S : Drv) (fs : List File) : Drv := fs.foldl loadStep S
def loads (S : Drv) : List File → Bool
  | [] => true
  | f :: r => S.loadFits f && (S.loadStep f).loads r
theorem loadK_snoc (S : Drv) (fs : List File) (f : File) : S.loadK (fs ++ [f]) = (S.loadK fs).loadStep f := by unfold loadK; rw [List.foldl_append]; rfl
theorem loads_at {S : Drv} {fs : List File} (h : S.loads fs = true) : ∀ {k : Nat} {f : File}, fs[k]? = some f → (S.loadK (fs.take k)).loadFits f = true := by
  induction fs generalizing S with
  | nil => intro k f hf; simp at hf
  | cons g r ih =>
    intro k f hf
    simp only [loads, Bool.and_eq_true] at h
    cases k with
    | zero => simp at hf; subst hf; exact h.1
    | succ k => exact ih h.2 (by simpa using hf)
structure LoadInv (S : Drv) (r k n : Nat) : Prop where
  same : S.kept = S.now
  len : S.bodies.length = k
  tidy : Tidy S.now
  sz : size S.now ≤ k
  used : 0 ≤ S.used ∧ S.used ≤ n
  room : S.room = r
theorem LoadInv.step {S : Drv} {r k n : Nat} (h : LoadInv S r k n) (f : File) : LoadInv (S.loadStep f) r (k + 1) (n + f.2.length) where
  same := by show S.kept.put _ _ = S.now.put _ _; rw [h.same]
  len := by show (S.bodies ++ [_]).length = _; rw [List.length_append, h.len]; rfl
  tidy := h.tidy.put (isKey _) _
  sz := by have h1 : size (S.now.put (key f.1) (num S.bodies.length)) ≤ size S.now + 1 := size_put_le h.tidy f.1 (num S.bodies.length); have h2 := h.sz; show size (S.now.put _ _) ≤ _; omega
  used := by have := h.used; show 0 ≤ S.used + _ ∧ S.used + _ ≤ ((n + f.2.length : Nat) : Int); omega
  room := h.room
def total (fs : List File) : Nat := (fs.map fun f => f.2.length).sum
theorem total_snoc (fs : List File) (f : File) : total (fs ++ [f]) = total fs + f.2.length := by unfold total; simp
theorem total_take (fs : List File) (k : Nat) : total (fs.take k) ≤ total fs := by
  unfold total
  rw [List.map_take]
  have e := congrArg List.sum (List.take_append_drop k (fs.map fun f : File => f.2.length))
  rw [List.sum_append] at e; omega
theorem total_get (fs : List File) {k : Nat} {f : File} (h : fs[k]? = some f) : f.2.length ≤ total fs := by
  have hk : fs.take (k + 1) = fs.take k ++ [f] := by rw [List.take_add_one, h]; rfl
  have := total_take fs (k + 1)
  rw [hk, total_snoc] at this; omega
theorem loadInv (r : Nat) (fs : List File) (k : Nat) (hk : k ≤ fs.length) : LoadInv ((Drv.new r).loadK (fs.take k)) r k (total (fs.take k)) := by
  induction k with
  | zero => exact ⟨rfl, rfl, tidy_empty, Nat.le_refl _, ⟨Int.le_refl _, Int.le_refl _⟩, rfl⟩
  | succ k ih =>
    obtain ⟨f, hf⟩ : ∃ f, fs[k]? = some f := ⟨_, List.getElem?_eq_getElem (by omega)⟩
    have h := (ih (by omega)).step f
    have hs : fs.take (k + 1) = fs.take k ++ [f] := by rw [List.take_add_one, hf]; rfl
    rw [hs, loadK_snoc, total_snoc]
    exact h
end Drv

theorem DirAt.lookOk {w : World} {addr : List Nat} {b : Nat} {D : Dir} (h : DirAt w addr b D) (s : ByteArray) (hs : s.size ≤ maxLen) (hno : has D (key s.data.toList) = false) :
    (Instr.lookup 93 (.map (some b)) (.string s) true).run Tryz.prog w = .ok (.tuple #[.pointer none, .bool false]) w := by
  obtain ⟨v, ps, hrun, hv⟩ := World.ownsMap.look_ok h dirKeyed Tryz.underlying93 (nilBody w) (zd := .nil) (zp := []) rfl (keyOf_string_mk Tryz.underlying9 hs)
  have hk : (Lit.string s.data.toList) = key s.data.toList := rfl
  have hat : D.atKey (key s.data.toList) .nil = .nil := atKey_of_not_has hno .nil
  have hat' : D.atKey (.string s.data.toList) .nil = .nil := hat
  have hno' : has D (.string s.data.toList) = false := hno
  rw [hrun, (elemR_inv hv).1, hat', hno']; rfl
/-- Files as they are handed in. -/
structure FilesIn (w : World) (A : Option Addr) (fs : List File) (vals : List Value) : Prop where
  len : vals.length = fs.length
  row : Reads w w.heap.size 2 A fs.length (fileCells fs vals)
  data : ∀ (k : Nat) (f : File) (u : Value), fs[k]? = some f → vals[k]? = some u → ∃ a c, u = .slice a f.2.length c ∧ Reads w w.heap.size 1 a f.2.length (f.2.map B8)
theorem FilesIn.keep {w w' : World} {A : Option Addr} {fs : List File} {vals : List Value} (h : FilesIn w A fs vals) (hb : Below w.heap.size w w') : FilesIn w' A fs vals :=
  ⟨h.len, (h.row.below hb).more hb.size, fun k f u hf hu => by
    obtain ⟨a, c, e, hr⟩ := h.data k f u hf hu
    exact ⟨a, c, e, (hr.below hb).more hb.size⟩⟩
theorem fileCells_get (fs : List File) (vals : List Value) {k : Nat} {f : File} {u : Value} (hf : fs[k]? = some f) (hu : vals[k]? = some u) : (fileCells fs vals)[k * 2]? = some (strV f.1) ∧ (fileCells fs vals)[k * 2 + 1]? = some u := by
  induction fs generalizing vals k with
  | nil => simp at hf
  | cons g r ih =>
    cases vals with
    | nil => simp at hu
    | cons v vs =>
      cases k with
      | zero => simp at hf hu; subst hf hu; exact ⟨rfl, rfl⟩
      | succ k =>
        have := ih vs (k := k) (by simpa using hf) (by simpa using hu)
        rw [show (k + 1) * 2 = k * 2 + 2 by omega]
        exact this
set_option maxRecDepth 100000 in
set_option maxHeartbeats 8000000 in
theorem load_ok (r : Nat) (hr1 : 1 ≤ r) (hr2 : r ≤ 1073741824) (fs : List File) (vals : List Value) (A : Option Addr) (c : Nat) (w : World) (hin : FilesIn w A fs vals) (hsp : ∀ ad, A = some ad → ad.spot = none) (hfs : fs.length ≤ 1099511627776) (htot : Drv.total fs ≤ 140737488351232) (hok : (Drv.new r).loads fs = true) :
    Calls Tryz.prog 29 #[.int .i64 (r : Int), .slice A fs.length c] w fun e w' => ∃ p, e = .returned (.pointer (some ⟨p, 0, none⟩)) ∧ Dr w' p ((Drv.new r).loadK fs) (fun k => w.heap.size ≤ k ∧ k < w'.heap.size) ∧ Below w.heap.size w w' := by
  have HIN := Lib.hid hin
  have HOK := Lib.hid (fun (k : Nat) (f : File) (h : fs[k]? = some f) => Drv.loads_at hok h)
  have HINV := Lib.hid (fun k hk => Drv.loadInv r fs k hk)
  have HSP := Lib.hid hsp
  have HTOT := Lib.hid (fun (k : Nat) => Nat.le_trans (Drv.total_take fs k) htot)
  have HTOG := Lib.hid (fun (k : Nat) (f : File) (h : fs[k]? = some f) => Nat.le_trans (Drv.total_get fs h) htot)
  obtain ⟨m, hm⟩ : ∃ m, m = fs.length := ⟨_, rfl⟩
  obtain ⟨S0, hS0⟩ : ∃ S0, S0 = Drv.new r := ⟨_, rfl⟩
  have HM := Lib.hid hm
  have HS0 := Lib.hid hS0
  rw [← hm] at hfs ⊢
  rw [← hS0] at HOK HINV ⊢
  clear hin hsp htot hok hm hS0
  go_enter Tryz.func29, Tryz.ntmps29
  go_wp2_with fail
  refine (new_good r w (by omega) (by omega)).mono ?_
  rintro e w3 ⟨rfl, hw3⟩
  obtain ⟨Ln, hLa, hDn, hFn⟩ := dr_new w r
  rw [← hw3] at hDn
  obtain ⟨pn, hpn⟩ : ∃ pn, pn = w.heap.size + 2 := ⟨_, rfl⟩
  have HDN : Hid (DrvAt w3 pn (S0.loadK (fs.take 0)) Ln) := Lib.hid (by rw [hpn, HS0.out]; exact hDn)
  have HFN : Hid (∀ j, Ln.foot pn j → w.heap.size ≤ j) := Lib.hid (by rw [hpn]; exact hFn)
  have HB3 : Hid (Below w.heap.size w w3) := Lib.hid (by rw [hw3]; exact (((Below.refl _ _).alloc (Nat.le_refl _) _).alloc (by simp) _).alloc (by simp; omega) _)
  have hpnq : w.heap.size ≤ pn := by omega
  rw [← hpn]
  clear hw3 hDn hFn hLa hpn
  go_wp2_with fail
  go_loopw [7, 8, 9, 10, 17] (fun _ _ _ _ s17 wr => ∃ k : Nat, k ≤ m ∧ s17 = .int .i64 k ∧ (∃ Lk, DrvAt wr pn (S0.loadK (fs.take k)) Lk ∧ (∀ j, Lk.foot pn j → w.heap.size ≤ j)) ∧ Below w.heap.size w wr) (fun _ _ _ _ s _ => m - (intOf s).toNat)
  case atStart => exact ⟨0, Nat.zero_le _, rfl, ⟨Ln, HDN.out, HFN.out⟩, HB3.out⟩
  case round =>
    obtain ⟨k, hk, rfl, ⟨Lk, hdk, hfk⟩, hbk⟩ := hrel
    have HDK := Lib.hid hdk
    have HFK := Lib.hid hfk
    have HBK := Lib.hid hbk
    have hszk := hbk.size
    have hpnl := hdk.head.lt
    clear hdk hfk hbk
    by_cases hltm : k < m
    · obtain ⟨f, hf⟩ : ∃ f, fs[k]? = some f := ⟨_, List.getElem?_eq_getElem (by rw [← HM.out]; exact hltm)⟩
      obtain ⟨u, hu⟩ : ∃ u, vals[k]? = some u := ⟨_, List.getElem?_eq_getElem (by rw [HIN.out.len, ← HM.out]; exact hltm)⟩
      obtain ⟨a, cf, rfl, hdat⟩ := HIN.out.data k f u hf hu
      obtain ⟨nm, bs⟩ := f
      obtain ⟨n, hn⟩ : ∃ n, n = bs.length := ⟨_, rfl⟩
      have hdat' : Reads w w.heap.size 1 a n (bs.map B8) := by rw [hn]; exact hdat
      have hu' : vals[k]? = some (.slice a n cf) := by rw [hn]; exact hu
      have hfit := HOK.out k _ hf
      simp only [Drv.loadFits, Bool.and_eq_true, Bool.not_eq_true'] at hfit
      obtain ⟨hnamed, hhas⟩ := hfit
      have hinv := HINV.out k (by rw [← HM.out]; omega)
      have hnmb : nm.length ≤ 1024 := by have := of_decide_eq_true (show decide (1 ≤ nm.length ∧ nm.length ≤ 1024) = true from hnamed); omega
      have hnb : n ≤ 140737488351232 := by rw [hn]; exact HTOG.out k _ hf
      obtain ⟨ad, hA, hbl, hcl⟩ := HIN.out.row.2 (by rw [← HM.out]; omega)
      obtain ⟨gA, oA, sA⟩ := ad
      have hsA : sA = none := HSP.out _ hA
      subst hsA
      subst hA
      have hg2 := fileCells_get fs vals hf hu'
      have x0 : wr.cell? ⟨gA, oA + k * 2, none⟩ = some (.string ⟨nm.toArray⟩) := by
        have h := hcl _ _ hg2.1
        rw [add_plain] at h
        exact (World.cell?_of_block (HBK.out.block gA hbl)).trans h
      have x1 : wr.cell? ⟨gA, oA + k * 2 + 1, none⟩ = some (.slice a n cf) := by
        have h := hcl _ _ hg2.2
        rw [add_plain] at h
        exact (World.cell?_of_block (HBK.out.block gA hbl)).trans h
      have HNM := Lib.hid hnamed
      have HHAS := Lib.hid hhas
      have HINVK := Lib.hid hinv
      have HN := Lib.hid hn
      have HF := Lib.hid hf
      have HDT : Hid (Reads wr wr.heap.size 1 a n (bs.map B8)) := Lib.hid ((hdat'.below HBK.out).more HBK.out.size)
      clear hf hu hu' hdat hdat' hn hnamed hhas hinv hbl hcl hg2
      go_wp2_with fail
      refine wp_world fun W hW => ?_
      obtain ⟨gf, hgf⟩ : ∃ g, g = wr.heap.size := ⟨_, rfl⟩
      rw [← hgf]
      have HFB : Hid (Blk W gf 71 #[.string ⟨nm.toArray⟩, .slice a n cf]) := Lib.hid (by rw [hW, hgf]; exact Blk.new _ _ _)
      have HBW : Hid (Below wr.heap.size wr W) := Lib.hid (by rw [hW]; exact (Below.refl _ _).alloc (Nat.le_refl _) _)
      have hgW : gf < W.heap.size := HFB.out.lt
      have hgfw : wr.heap.size ≤ gf := by omega
      have HDW := Lib.hid (HDK.out.keep fun j hj => HBW.out.block j (HDK.out.foot_lt hj))
      have hDW := HDW.out
      have y2 : W.cell? ⟨pn, 2, none⟩ = some (.map (some Lk.nowM)) := hDW.head.cell 2
      have z0 : W.cell? ⟨gf, 0, none⟩ = some (.string ⟨nm.toArray⟩) := HFB.out.cell 0
      have z1 : W.cell? ⟨gf, 1, none⟩ = some (.slice a n cf) := HFB.out.cell 1
      have hl := fun q : Nat => (hDW.now.keep (w' := W.drewN q) rfl).lookOk ⟨nm.toArray⟩ (by show nm.toArray.size ≤ maxLen; simp [maxLen]; omega) (by rw [show (⟨nm.toArray⟩ : ByteArray).data.toList = nm by simp]; exact HHAS.out)
      have hpnW : pn < W.heap.size := hDW.head.lt
      clear hW hgf x0 x1 hDW
      go_quiet (fail)
      refine exit_world fun X hX => ?_
      have hbX : Below W.heap.size W X := by rw [hX]; exact below_drewN (Below.refl _ _) nq
      have HXW := Lib.hid hbX
      have hXs : X.heap.size = W.heap.size := by rw [hX]; rfl
      have z0 : X.cell? ⟨gf, 0, none⟩ = some (.string ⟨nm.toArray⟩) := by rw [hX]; exact z0
      have z1 : X.cell? ⟨gf, 1, none⟩ = some (.slice a n cf) := by rw [hX]; exact z1
      have HX : Hid (Below wr.heap.size wr X) := Lib.hid (HBW.out.trans (hbX.mono HBW.out.size))
      have HFX := Lib.hid (HFB.out.below hbX HFB.out.lt)
      have HNMD : Hid (∀ V, Calls Tryz.prog 52 #[.string ⟨nm.toArray⟩] V fun e w' => e = .returned (.bool true) ∧ V = w') := Lib.hid fun V => by
        have h := named_any ⟨nm.toArray⟩ V (by show nm.toArray.size ≤ maxLen; simp [maxLen]; omega)
        rw [show (⟨nm.toArray⟩ : ByteArray).data.toList = nm by simp, HNM.out] at h
        exact h
      clear hX hl hbX y2
      go_upto_region 10 with (go_at_call 52; refine (HNMD.out _).mono ?_; rintro e w' ⟨rfl, rfl⟩)
      go_cut [10] (fun s10 wx => ∃ (g : Nat) (a5 : Option Addr) (c5 : Nat), s10 = .pointer (some ⟨g, 0, none⟩) ∧ X.heap.size ≤ g ∧ Blk wx g 105 #[.slice a5 n c5, .int .i64 n] ∧ wx.ownsRow X.heap.size 5 1 (.slice a5 n c5) n (bs.map B8) ∧ Below X.heap.size X wx)
      case first =>
        have HCL := Lib.hid (fun V (hV : Below X.heap.size X V) => clone_any a n cf bs V wr.heap.size (HDT.out.below (HX.out.trans (hV.mono HX.out.size))) (by omega))
        have hgX : gf < X.heap.size := HFX.out.lt
        have hd0 : Below X.heap.size X X.drew := below_drewN (Below.refl _ X) 1
        have HD0 := Lib.hid hd0
        have s1 : X.drew.cell? ⟨gf, 1, none⟩ = some (.slice a n cf) := z1
        clear hd0
        go_region_held3 (fun w' => w'.cell? ⟨gf, 1, none⟩ = some (.slice a n cf)) (first | exact s1 | exact z1 | exact q1 | exact q2 _) ((go_at_call 51; refine (HCL.out _ HD0.out).mono ?_; rintro e V ⟨v5, rfl, ho, hb⟩; obtain ⟨a5, c5, hv5, _⟩ := own_shape ho; subst hv5; have HOV := Lib.hid ho; have HV : Hid (Below X.heap.size X V) := Lib.hid (HD0.out.trans hb); have q1 : V.cell? ⟨gf, 1, none⟩ = some (.slice a n cf) := hb.cell (p := ⟨gf, 1, none⟩) hgX |>.trans s1; have q2 : ∀ o, (V.alloc o).cell? ⟨gf, 1, none⟩ = some (.slice a n cf) := fun o => (World.cell?_alloc_lt V o ⟨gf, 1, none⟩ (Nat.lt_of_lt_of_le hgX HV.out.size)).trans q1; clear ho hb))
        all_goals
          go_wp2_with fail
          go_meet
          exact ⟨_, _, _, rfl, HV.out.size, blk_last _ _ _ _ rfl, HOV.out.alloc _, HV.out.alloc HV.out.size _⟩
      case rest =>
        obtain ⟨W6, rfl⟩ : ∃ x, x = wc := ⟨_, rfl⟩
        obtain ⟨g, a5, c5, rfl, hgX, hblk, hrow, hB6⟩ := hcut
        have hrow' : W6.ownsRow X.heap.size 5 1 (.slice a5 n c5) bs.length (bs.map B8) := by rw [← HN.out]; exact hrow
        have HROW := Lib.hid hrow
        have HXD := Lib.hid (HDW.out.keep fun j hj => HXW.out.block j (HDW.out.foot_lt hj))
        have hszc : size (S0.loadK (fs.take k)).now ≤ k := HINVK.out.sz
        have hgf6 : gf < X.heap.size := HFX.out.lt
        have HF6 := Lib.hid (HFX.out.below hB6 hgf6)
        clear z0 z1 hrow
        go_wp2_with fail
        have hA := HXD.out.addBodyV hB6 hgX hblk hrow'
        have HA := Lib.hid hA
        have hkb : (S0.loadK (fs.take k)).bodies.length = k := HINVK.out.len
        have hla : Lk.addr.length = k := by rw [HXD.out.la, hkb]
        have m2 : W6.cell? ⟨pn, 2, none⟩ = some (.map (some Lk.nowM)) := hA.head.cell 2
        have m3 : W6.cell? ⟨pn, 3, none⟩ = some (.map (some Lk.keptM)) := hA.head.cell 3
        have hpt : ptrO (Lk.addr ++ [g]) (some k) = .pointer (some ⟨g, 0, none⟩) := by
          show Value.pointer (some ⟨adrOf (Lk.addr ++ [g]) k, 0, none⟩) = _
          rw [show adrOf (Lk.addr ++ [g]) k = g by rw [← hla]; exact getD_snoc_eq]
        have hsn : (⟨nm.toArray⟩ : ByteArray).data.toList = nm := by simp
        obtain ⟨O1, O2, s1, e1, e2, e3⟩ := hA.now.entry (by show size ((S0.loadK (fs.take k)).now) < maxLen; unfold maxLen; omega) ⟨nm.toArray⟩ (by rw [hsn]; exact HHAS.out) hA.nodup (by show nm.toArray.size ≤ maxLen; simp [maxLen]; omega) k (by simp [hla])
        obtain ⟨O3, O4, s2, e4, e5, e6⟩ := hA.kept.entry (by show size (S0.loadK (fs.take k)).kept < maxLen; rw [HINVK.out.same]; unfold maxLen; omega) ⟨nm.toArray⟩ (by rw [hsn]; show has (S0.loadK (fs.take k)).kept _ = false; rw [HINVK.out.same]; exact HHAS.out) hA.nodup (by show nm.toArray.size ≤ maxLen; simp [maxLen]; omega) k (by simp [hla])
        rw [hpt] at e2 e5
        rw [hsn] at e3 e6
        have E1 := Lib.hid e1
        have E2 := Lib.hid e2
        have E3 := Lib.hid e3
        have E4 := Lib.hid e4
        have E5 := Lib.hid e5
        have E6 := Lib.hid e6
        have HPT := Lib.hid hpt
        clear e1 e2 e3 e4 e5 e6 hA hla hpt hsn hrow'
        have hne := HA.out.ne
        have hnl2 : Lk.nowM < W6.heap.size := HA.out.now.lt
        have hkl2 : Lk.keptM < W6.heap.size := HA.out.kept.lt
        have hn1 : pn ≠ Lk.nowM := dir_blk_ne HA.out.now HA.out.head
        have hn2 : pn ≠ Lk.keptM := dir_blk_ne HA.out.kept HA.out.head
        obtain ⟨V1, hV1⟩ : ∃ V, V = ChangeMaps.setBlock W6.drew Lk.nowM O1 := ⟨_, rfl⟩
        obtain ⟨V2, hV2⟩ : ∃ V, V = ChangeMaps.setBlock V1 Lk.nowM O2 := ⟨_, rfl⟩
        obtain ⟨V3, hV3⟩ : ∃ V, V = ChangeMaps.setBlock V2 Lk.keptM O3 := ⟨_, rfl⟩
        obtain ⟨V4, hV4⟩ : ∃ V, V = ChangeMaps.setBlock V3 Lk.keptM O4 := ⟨_, rfl⟩
        have l1 : V1.heap.size = W6.heap.size := by rw [hV1, setBlock_size]; rfl
        have l2 : V2.heap.size = W6.heap.size := by rw [hV2, setBlock_size, l1]
        have l3 : V3.heap.size = W6.heap.size := by rw [hV3, setBlock_size, l2]
        have f1 : (Instr.mapEntry 93 (.map (some Lk.nowM)) (.string ⟨nm.toArray⟩)).run Tryz.prog W6.drew = .ok (.tuple #[.pointer none, .int .i64 s1]) V1 := by rw [hV1]; exact E1.out _ rfl
        have f2 : (Instr.entryStore 93 (.map (some Lk.nowM)) (.int .i64 s1) (.pointer (some ⟨g, 0, none⟩))).run Tryz.prog V1 = .ok () V2 := by rw [hV2]; exact E2.out _ (by rw [hV1]; exact setBlock_same _ _ hnl2)
        have f3 : (Instr.mapEntry 93 (.map (some Lk.keptM)) (.string ⟨nm.toArray⟩)).run Tryz.prog V2 = .ok (.tuple #[.pointer none, .int .i64 s2]) V3 := by
          rw [hV3]; exact E4.out _ (by rw [hV2, setBlock_other _ _ (Ne.symm hne), hV1, setBlock_other _ _ (Ne.symm hne)]; rfl)
        have f4 : (Instr.entryStore 93 (.map (some Lk.keptM)) (.int .i64 s2) (.pointer (some ⟨g, 0, none⟩))).run Tryz.prog V3 = .ok () V4 := by rw [hV4]; exact E5.out _ (by rw [hV3]; exact setBlock_same _ _ (by rw [l2]; exact hkl2))
        have hT2 : Touch (· = Lk.nowM) W6 V2 := by
          have h1 : Touch (· = Lk.nowM) W6 V1 := by rw [hV1]; exact (Touch.drewN (F := (· = Lk.nowM)) W6 1).trans ((setBlock_touch W6.drew Lk.nowM O1).mono fun k _ hk => .inl hk)
          refine h1.trans ?_
          rw [hV2]; exact (setBlock_touch _ _ _).mono fun k _ hk => .inl hk
        have hT4 : Touch (· = Lk.keptM) V2 V4 := by
          have h1 : Touch (· = Lk.keptM) V2 V3 := by rw [hV3]; exact setBlock_touch _ _ _
          refine h1.trans ?_
          rw [hV4]; exact (setBlock_touch _ _ _).mono fun k _ hk => .inl hk
        have hD2 := HA.out.setNow (E3.out V2 (by rw [hV2]; exact setBlock_same _ _ (by rw [l1]; exact hnl2))) hT2
        have hD4 := hD2.setKeptD (E6.out V4 (by rw [hV4]; exact setBlock_same _ _ (by rw [l3]; exact hkl2))) hT4
        have cell1 : ∀ j, V1.cell? ⟨pn, j, none⟩ = W6.cell? ⟨pn, j, none⟩ := fun j => World.cell?_of_block (by rw [hV1, setBlock_other _ _ hn1]; rfl)
        have cell2 : ∀ j, V2.cell? ⟨pn, j, none⟩ = W6.cell? ⟨pn, j, none⟩ := fun j => World.cell?_of_block (hT2.block _ HA.out.head.lt hn1)
        have cell3 : ∀ j, V3.cell? ⟨pn, j, none⟩ = W6.cell? ⟨pn, j, none⟩ := fun j => (World.cell?_of_block (by rw [hV3, setBlock_other _ _ hn2])).trans (cell2 j)
        have cell4 : ∀ j, V4.cell? ⟨pn, j, none⟩ = W6.cell? ⟨pn, j, none⟩ := fun j => (World.cell?_of_block (hT4.block _ (by rw [l2]; exact HA.out.head.lt) hn2)).trans (cell2 j)
        have kn : gf ≠ Lk.nowM := dir_blk_ne HA.out.now HF6.out
        have kk : gf ≠ Lk.keptM := dir_blk_ne HA.out.kept HF6.out
        have w0 : W6.cell? ⟨gf, 0, none⟩ = some (.string ⟨nm.toArray⟩) := HF6.out.cell 0
        have w1 : V1.cell? ⟨gf, 0, none⟩ = some (.string ⟨nm.toArray⟩) := (World.cell?_of_block (by rw [hV1, setBlock_other _ _ kn]; rfl)).trans w0
        have w2 : V2.cell? ⟨gf, 0, none⟩ = some (.string ⟨nm.toArray⟩) := (World.cell?_of_block (hT2.block _ HF6.out.lt kn)).trans w0
        have w5 : V3.cell? ⟨gf, 0, none⟩ = some (.string ⟨nm.toArray⟩) := (World.cell?_of_block (by rw [hV3, setBlock_other _ _ kk])).trans w2
        have w6 : V4.cell? ⟨gf, 0, none⟩ = some (.string ⟨nm.toArray⟩) := (World.cell?_of_block (hT4.block _ (by rw [l2]; exact HF6.out.lt) kk)).trans w2
        have a2 := (cell1 2).trans m2
        have a3 := (cell1 3).trans m3
        have b2 := (cell2 2).trans m2
        have b3 := (cell2 3).trans m3
        have c2 := (cell3 2).trans m2
        have c3 := (cell3 3).trans m3
        have d2 := (cell4 2).trans m2
        have d3 := (cell4 3).trans m3
        have HD4' := Lib.hid hD4
        have HK2 := Lib.hid hD2.kept
        obtain ⟨su, hsu⟩ : ∃ su, su = (S0.loadK (fs.take k)).used := ⟨_, rfl⟩
        have hsul : 0 ≤ su ∧ su ≤ 140737488351232 := by have h1 := HINVK.out.used; have h2 := HTOT.out k; omega
        obtain ⟨hsul0, hsul1⟩ := hsul
        have HSU := Lib.hid hsu
        have HT2 := Lib.hid hT2
        have HT4 := Lib.hid hT4
        have HB6 := Lib.hid hB6
        have d1 : V4.cell? ⟨pn, 1, none⟩ = some (.int .i64 su) := by rw [hsu]; exact hD4.head.cell 1
        have d1f : V4.frozen? ⟨pn, 1, none⟩ = false := hD4.head.frozen 1
        clear hsu hV1 hV2 hV3 hV4 l1 l2 l3 hT2 hT4 hD2 hD4 cell1 cell2 cell3 cell4 hB6 hne hn1 hn2
        have hb2 : Blk V2 g 105 #[.slice a5 n c5, .int .i64 n] := (HT2.out.block g hblk.lt (fun e => dir_blk_ne HA.out.now hblk e)).trans hblk
        have hb4 : Blk V4 g 105 #[.slice a5 n c5, .int .i64 n] := (HT4.out.block g hb2.lt (fun e => dir_blk_ne HA.out.kept hblk e)).trans hb2
        have g1 : V4.cell? ⟨g, 1, none⟩ = some (.int .i64 n) := hb4.cell 1
        clear hblk hb2 hb4 kn kk
        go_region_held3 (fun w' => w'.cell? ⟨pn, 2, none⟩ = some (.map (some Lk.nowM)) ∧ w'.cell? ⟨pn, 3, none⟩ = some (.map (some Lk.keptM)) ∧ w'.cell? ⟨gf, 0, none⟩ = some (.string ⟨nm.toArray⟩)) (go_keep) (fail)
        go_wp2
        go_region
        all_goals
          go_wp2
          go_roundw
          case rel =>
            have hD5 := HD4'.out.setUsed ((su : Int) + n)
            have hkb' : (S0.loadK (fs.take k)).bodies.length = k := HINVK.out.len
            have hEQ : S0.loadK (fs.take (k + 1)) = (S0.loadK (fs.take k)).loadStep (nm, bs) := by
              rw [show fs.take (k + 1) = fs.take k ++ [(nm, bs)] by rw [List.take_add_one, HF.out]; rfl, Drv.loadK_snoc]
            have hfl : ∀ j, (j = Lk.nowM ∨ j = Lk.keptM ∨ j = pn) → w.heap.size ≤ j := fun j hj => by
              rcases hj with rfl | rfl | rfl
              · exact HFK.out _ (.inr (.inl rfl))
              · exact HFK.out _ (.inr (.inr (.inl rfl)))
              · exact hpnq
            have hx1 := HX.out.size
            have hB6q : Below w.heap.size w W6 := HBK.out.trans ((HX.out.trans (HB6.out.mono hx1)).mono hszk)
            have hB2 : Below w.heap.size w V2 := hB6q.trans (HT2.out.below hB6q.size fun j hj => hfl j (.inl hj))
            have hB4 : Below w.heap.size w V4 := hB2.trans (HT4.out.below hB2.size fun j hj => hfl j (.inr (.inl hj)))
            refine ⟨k + 1, by omega, by go_num, ⟨{ Lk with addr := Lk.addr ++ [g], vals := Lk.vals ++ [.slice a5 n c5] }, ?_, ?_⟩, (below_drewN hB4 1).setCell (hfl pn (.inr (.inr rfl))) _⟩
            · rw [hEQ]
              unfold Drv.loadStep
              rw [hkb', ← HN.out, ← HSU.out]
              exact hD5.keep fun _ _ => rfl
            · rintro j (h | h | h | h | ⟨v, h, hv⟩ | h | h)
              · rw [h]; exact hpnq
              · exact HFK.out _ (.inr (.inl h))
              · exact HFK.out _ (.inr (.inr (.inl h)))
              · rcases List.mem_append.1 h with h | h
                · exact HFK.out _ (.inr (.inr (.inr (.inl h))))
                · simp at h; subst h; omega
              · rcases List.mem_append.1 h with h | h
                · exact HFK.out _ (.inr (.inr (.inr (.inr (.inl ⟨v, h, hv⟩)))))
                · simp at h; subst h
                  have := (HROW.out.lt j hv).1; omega
              · exact HFK.out _ (.inr (.inr (.inr (.inr (.inr (.inl h))))))
              · exact HFK.out _ (.inr (.inr (.inr (.inr (.inr (.inr h))))))
          case measure => simp [intOf]; omega
    · obtain rfl : k = m := by omega
      have hE : Hid (fs.take k = fs) := Lib.hid (by rw [HM.out, List.take_length])
      have HDE : Hid (DrvAt wr pn (S0.loadK fs) Lk) := Lib.hid (by have h := HDK.out; rw [hE.out] at h; exact h)
      go_wp2
      go_ret
      exact ⟨pn, rfl, ⟨_, Lk, rfl, HDE.out, fun j hj => ⟨HFK.out j hj, HDE.out.foot_lt hj⟩⟩, HBK.out⟩
end Go.Proofs.YtdiaihpilniikaaGreat
