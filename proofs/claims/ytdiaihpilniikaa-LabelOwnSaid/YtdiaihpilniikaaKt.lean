/- The law's helper 'known'. -/
import Derived.Test.YtdiaihpilniikaaKs
import Derived.Laws.BytesArg
import Derived.Deep.RegionHeld3
import Derived.Deep.DeepCutAuto
namespace Go.Proofs.Ytdiaihpilniikaa
open Go.RowKit Go.Maps

/-- The drive that the law makes, and what comes of it. -/
def kS0 : Drv := Drv.new 1000
def kS1 : Drv := (kS0.create [116]).1
def kS2 : Drv := (kS1.append [116] sampleL.bytes).1
def kS3 : Drv := (kS2.sync [116]).1
def kS4 : Drv := (kS3.rename [116] [108]).1
def smallB (S : Drv) : Bool := S.bodies.all (fun b => decide (b.data.length ≤ 100) && decide (b.safe ≤ 100)) && decide (0 ≤ S.used) && decide (S.used ≤ 100) && decide (size S.now ≤ 9) && decide (size S.kept ≤ 9) && decide (S.pending.length ≤ 9) && decide (S.room ≤ 1000)
theorem small_of {S : Drv} (h : smallB S = true) : S.Small := by
  unfold smallB at h
  simp only [Bool.and_eq_true, decide_eq_true_eq, List.all_eq_true] at h
  obtain ⟨⟨⟨⟨⟨⟨hb, h1⟩, h2⟩, h3⟩, h4⟩, h5⟩, h6⟩ := h
  have hB : ∀ i, (S.body i).data.length ≤ 100 ∧ (S.body i).safe ≤ 100 := fun i => by
    unfold Drv.body
    by_cases hi : i < S.bodies.length
    · rw [List.getD_eq_getElem?_getD, List.getElem?_eq_getElem hi]
      exact hb _ (List.getElem_mem hi)
    · rw [List.getD_eq_getElem?_getD, List.getElem?_eq_none (by omega)]
      exact ⟨by decide, by decide⟩
  exact ⟨fun i => by have := (hB i).1; show (S.body i).data.length ≤ _; omega, by omega, by omega, by omega, by omega, by omega, fun i => by have := (hB i).2; omega, h1⟩
theorem k_small : kS0.Small ∧ kS1.Small ∧ kS2.Small ∧ kS3.Small ∧ kS4.syncDir.Small := ⟨small_of (by kernel_rfl), small_of (by kernel_rfl), small_of (by kernel_rfl), small_of (by kernel_rfl), small_of (by kernel_rfl)⟩
theorem k_steps : kS0.create [116] = (kS1, 0) ∧ kS1.append [116] sampleL.bytes = (kS2, 0) ∧ kS2.sync [116] = (kS3, 0) ∧ kS3.rename [116] [108] = (kS4, 0) := ⟨Prod.ext rfl (by kernel_rfl), Prod.ext rfl (by kernel_rfl), Prod.ext rfl (by kernel_rfl), Prod.ext rfl (by kernel_rfl)⟩
theorem k_reads : kS0.read [108] = ([], 110) ∧ kS4.syncDir.read [108] = (sampleL.bytes, 0) := ⟨by kernel_rfl, by kernel_rfl⟩
theorem sample_wf : sampleL.Wf := ⟨rfl, by decide, by decide⟩
theorem sample_may : sampleL.may = 0 := by decide
theorem conv_any (w : World) (B : Nat) (a : Option Addr) (bs : List UInt8) (c : Nat) (h : Reads w B 1 a bs.length (bs.map B8)) :
    (convert 33 9 (.slice a bs.length c)).run Try.prog w = .ok (.string ⟨bs.toArray⟩) w := by
  cases a with
  | none =>
    have : bs = [] := by
      rcases Nat.eq_zero_or_pos bs.length with h0 | h0
      · exact List.eq_nil_of_length_eq_zero h0
      · obtain ⟨ad, e, _⟩ := h.2 h0; cases e
    subst this
    exact run_convert_bytes_nil w 33 5 Try.underlying33 Try.underlying5 0 c 9 Try.underlying9
  | some ad =>
    refine run_convert_bytes_back w 33 9 5 ad c bs Try.underlying33 Try.underlying5 Try.underlying9 fun j hj => ?_
    obtain ⟨ad', e, _, hc⟩ := h.2 (by omega)
    injection e with e; subst e
    exact hc j (B8 bs[j]) (by simp [hj])

theorem newd_any (w : World) : Calls Try.prog 23 #[.int .i64 1000] w fun e w' => ∃ p, e = .returned (.pointer (some ⟨p, 0, none⟩)) ∧ Dr w' p kS0 (fun k => w.heap.size ≤ k ∧ k < w'.heap.size) ∧ Below w.heap.size w w' := by
  refine (new_good 1000 w (by decide) (by decide)).mono ?_
  rintro e w' ⟨rfl, rfl⟩
  obtain ⟨addr, L, e, hD, hF⟩ : Dr _ _ _ _ := ⟨_, dr_new w 1000⟩
  exact ⟨_, rfl, ⟨addr, L, e, hD, fun k hk => ⟨hF k hk, hD.foot_lt hk⟩⟩, (((Below.refl _ w).alloc (Nat.le_refl _) _).alloc (by simp) _).alloc (by simp; omega) _⟩

theorem sa_eq : labV sampleL = .agg #[.int .u8 1, .int .u8 2, .int .u8 3, .int .u8 4, .int .u8 5, .int .u8 6, .int .u8 7, .int .u8 8, .int .i64 2, .int .i64 1, .int .i64 4, .int .i64 2, .int .i64 258] := rfl
theorem sample_head : sampleL.bytes.take 27 = [67, 82, 78, 1, 1, 2, 3, 4, 5, 6, 7, 8, 2, 1, 4, 0, 0, 0, 2, 2, 1, 0, 0, 0, 0, 0, 0] := by kernel_rfl
theorem sample_parse : Lab.parse sampleL.bytes = (sampleL, 0) := Lab.parse_bytes sampleL rfl sample_may

set_option maxRecDepth 100000 in
set_option maxHeartbeats 20000000 in
theorem known_any (w : World) : Calls Try.prog 13 #[] w fun e w' => e = .returned (.bool true) ∧ Below w.heap.size w w' := by
  have HSA : Hid (∀ W, Calls Try.prog 12 #[] W fun e w' => e = .returned (.agg #[.int .u8 1, .int .u8 2, .int .u8 3, .int .u8 4, .int .u8 5, .int .u8 6, .int .u8 7, .int .u8 8, .int .i64 2, .int .i64 1, .int .i64 4, .int .i64 2, .int .i64 258]) ∧ Below W.heap.size W w') := Lib.hid sample_any
  have HEN : Hid (∀ W, Calls Try.prog 15 #[.agg #[.int .u8 1, .int .u8 2, .int .u8 3, .int .u8 4, .int .u8 5, .int .u8 6, .int .u8 7, .int .u8 8, .int .i64 2, .int .i64 1, .int .i64 4, .int .i64 2, .int .i64 258]] W fun e w' => ∃ g c, e = .returned (.tuple #[.slice (some ⟨g, 0, none⟩) 31 c, .int .i64 0]) ∧ w'.ownsRow W.heap.size 5 1 (.slice (some ⟨g, 0, none⟩) 31 c) 31 (sampleL.bytes.map B8) ∧ Below W.heap.size W w' ∧ 31 ≤ c) := Lib.hid fun W => by
    refine (encode_ok sampleL sample_wf sample_may W).mono ?_
    rintro e w' ⟨u, he, ho, hb⟩
    obtain ⟨A, c, rfl, hle⟩ := own_shape ho
    obtain ⟨g, rfl⟩ : ∃ g, A = some ⟨g, 0, none⟩ := by
      rcases ho.2 with ⟨_, h0⟩ | ⟨g', cap, cur, hv, _⟩
      · cases h0
      · injection hv with e1 e2 e3; exact ⟨g', e1⟩
    exact ⟨g, c, he, ho, hb, hle⟩
  go_enter Try.func13, Try.ntmps13
  go_wp2_with (first
    | (go_at_call 12; refine (HSA.out _).mono ?_; rintro e w1 ⟨rfl, hb1⟩; have HB1 := Lib.hid hb1; clear hb1)
    | (go_at_call 15; refine (HEN.out _).mono ?_; rintro e w2 ⟨g, c, rfl, ho, hb2, hc31⟩; have HO2 := Lib.hid ho; have HB2 := Lib.hid hb2; clear ho hb2))
  refine wp_world fun X hX => ?_
  have h12 := HB1.out.size
  have h13 := HB2.out.size
  have HBX : Hid (Below w.heap.size w X) := Lib.hid (by rw [hX]; exact (HB1.out.trans (HB2.out.mono h12)).alloc (by omega) _)
  have HOX : Hid (X.ownsRow w.heap.size 5 1 (.slice (some ⟨g, 0, none⟩) 31 c) 31 (sampleL.bytes.map B8)) := Lib.hid (by rw [hX]; exact (ownsRow_base_a HO2.out h12).alloc _)
  have hX2 : X.heap.size = w2.heap.size + 1 := by rw [hX, alloc_size]
  have HKW : Hid (Blk X w2.heap.size 5 (([67, 82, 78, 1, 1, 2, 3, 4, 5, 6, 7, 8, 2, 1, 4, 0, 0, 0, 2, 2, 1, 0, 0, 0, 0, 0, 0] : List UInt8).map B8).toArray) := Lib.hid (by rw [hX]; exact Blk.new _ _ _)
  have HRX : Hid (Reads X X.heap.size 1 (some ⟨g, 0, none⟩) 31 (sampleL.bytes.map B8)) := Lib.hid (Reads.of_own HOX.out)
  have hva : ∀ m, (convert 33 9 (.slice (some ⟨g, 0, none⟩) 27 c)).run Try.prog (X.drewN m) = .ok (.string ⟨([67, 82, 78, 1, 1, 2, 3, 4, 5, 6, 7, 8, 2, 1, 4, 0, 0, 0, 2, 2, 1, 0, 0, 0, 0, 0, 0] : List UInt8).toArray⟩) (X.drewN m) := fun m => conv_any _ X.heap.size (some ⟨g, 0, none⟩) [67, 82, 78, 1, 1, 2, 3, 4, 5, 6, 7, 8, 2, 1, 4, 0, 0, 0, 2, 2, 1, 0, 0, 0, 0, 0, 0] c ((by
    have := reads_take HRX.out (j := 27) (by decide)
    rw [← List.map_take, sample_head] at this
    exact this : Reads X X.heap.size 1 (some ⟨g, 0, none⟩) 27 (([67, 82, 78, 1, 1, 2, 3, 4, 5, 6, 7, 8, 2, 1, 4, 0, 0, 0, 2, 2, 1, 0, 0, 0, 0, 0, 0] : List UInt8).map B8)).drewN m)
  have hvb : ∀ m, (convert 33 9 (.slice (some ⟨w2.heap.size, 0, none⟩) 27 27)).run Try.prog (X.drewN m) = .ok (.string ⟨([67, 82, 78, 1, 1, 2, 3, 4, 5, 6, 7, 8, 2, 1, 4, 0, 0, 0, 2, 2, 1, 0, 0, 0, 0, 0, 0] : List UInt8).toArray⟩) (X.drewN m) := fun m => conv_any _ X.heap.size (some ⟨w2.heap.size, 0, none⟩) [67, 82, 78, 1, 1, 2, 3, 4, 5, 6, 7, 8, 2, 1, 4, 0, 0, 0, 2, 2, 1, 0, 0, 0, 0, 0, 0] 27 (Reads.drewN (reads_blk HKW.out (by omega) rfl) m)
  have hc27 : (27 : Int) ≤ (c : Int) := by omega
  clear hX
  go_quiet (fail)
  have HP31 : Hid (∀ V, Below X.heap.size X V → Calls Try.prog 17 #[.slice (some ⟨g, 0, none⟩) 31 c] V fun e w' => e = .returned (.tuple #[.agg #[.int .u8 1, .int .u8 2, .int .u8 3, .int .u8 4, .int .u8 5, .int .u8 6, .int .u8 7, .int .u8 8, .int .i64 2, .int .i64 1, .int .i64 4, .int .i64 2, .int .i64 258], .int .i64 0]) ∧ Below V.heap.size V w') := Lib.hid fun V hV => by
    have h := parse_any (some ⟨g, 0, none⟩) 31 c sampleL.bytes V X.heap.size (HRX.out.below hV) hV.size hc31 (fun _ => ⟨g, rfl⟩)
    rw [sample_parse] at h
    exact h
  have HP30 : Hid (∀ V, Below X.heap.size X V → Calls Try.prog 17 #[.slice (some ⟨g, 0, none⟩) 30 c] V fun e w' => e = .returned (.tuple #[.agg #[.int .u8 0, .int .u8 0, .int .u8 0, .int .u8 0, .int .u8 0, .int .u8 0, .int .u8 0, .int .u8 0, .int .i64 0, .int .i64 0, .int .i64 0, .int .i64 0, .int .i64 0], .int .i64 150]) ∧ Below V.heap.size V w') := Lib.hid fun V hV => parse_short (some ⟨g, 0, none⟩) 30 c V (by decide)
  have HNS : Hid (∀ W, (binOp .neq 26 (.agg #[.int .u8 1, .int .u8 2, .int .u8 3, .int .u8 4, .int .u8 5, .int .u8 6, .int .u8 7, .int .u8 8, .int .i64 2, .int .i64 1, .int .i64 4, .int .i64 2, .int .i64 258]) (.agg #[.int .u8 1, .int .u8 2, .int .u8 3, .int .u8 4, .int .u8 5, .int .u8 6, .int .u8 7, .int .u8 8, .int .i64 2, .int .i64 1, .int .i64 4, .int .i64 2, .int .i64 258])).run Try.prog W = .ok (.bool false) W) := Lib.hid (lab_neq sampleL rfl)
  have HNZ : Hid (∀ W, (binOp .neq 26 (.agg #[.int .u8 0, .int .u8 0, .int .u8 0, .int .u8 0, .int .u8 0, .int .u8 0, .int .u8 0, .int .u8 0, .int .i64 0, .int .i64 0, .int .i64 0, .int .i64 0, .int .i64 0]) (.agg #[.int .u8 0, .int .u8 0, .int .u8 0, .int .u8 0, .int .u8 0, .int .u8 0, .int .u8 0, .int .u8 0, .int .i64 0, .int .i64 0, .int .i64 0, .int .i64 0, .int .i64 0])).run Try.prog W = .ok (.bool false) W) := Lib.hid (lab_neq Lab.zero rfl)
  have HES : Hid (∀ W, (binOp .eql 26 (.agg #[.int .u8 1, .int .u8 2, .int .u8 3, .int .u8 4, .int .u8 5, .int .u8 6, .int .u8 7, .int .u8 8, .int .i64 2, .int .i64 1, .int .i64 4, .int .i64 2, .int .i64 258]) (.agg #[.int .u8 1, .int .u8 2, .int .u8 3, .int .u8 4, .int .u8 5, .int .u8 6, .int .u8 7, .int .u8 8, .int .i64 2, .int .i64 1, .int .i64 4, .int .i64 2, .int .i64 258])).run Try.prog W = .ok (.bool true) W) := Lib.hid (lab_eql sampleL rfl)
  have hc30 : (30 : Int) ≤ (c : Int) := by omega
  have hbd : Below X.heap.size X (X.drewN nq) := below_drewN (Below.refl _ X) nq
  have HBD := Lib.hid hbd
  clear hbd hva hvb
  have tok1 : True := trivial
  have tok2 : True := trivial
  go_wp2_with (first
    | (go_at_call 17; have _t := tok1; clear tok1; refine (HP31.out _ HBD.out).mono ?_; rintro e w3 ⟨rfl, hb3⟩; have HB3 : Hid (Below X.heap.size X w3) := Lib.hid (HBD.out.trans (hb3.mono HBD.out.size)); clear hb3)
    | (go_at_call 17; refine (HP30.out _ (HB3.out.alloc HB3.out.size _)).mono ?_; rintro e w4 ⟨rfl, hb4⟩; have HB4 : Hid (Below X.heap.size X w4) := Lib.hid ((HB3.out.alloc HB3.out.size _).trans (hb4.mono (by rw [alloc_size]; have := HB3.out.size; omega))); have HK4 : Hid (Blk w4 w3.heap.size 26 #[.int .u8 1, .int .u8 2, .int .u8 3, .int .u8 4, .int .u8 5, .int .u8 6, .int .u8 7, .int .u8 8, .int .i64 2, .int .i64 1, .int .i64 4, .int .i64 2, .int .i64 258]) := Lib.hid ((Blk.new w3 _ _).below hb4 (by rw [alloc_size]; omega)); clear hb4)
    | (go_at_call 23; refine (newd_any _).mono ?_; rintro e w5 ⟨p, rfl, hd5, hb5⟩; have HB5 : Hid (Below X.heap.size X w5) := Lib.hid ((HB4.out.alloc HB4.out.size _).trans (hb5.mono (by rw [alloc_size]; have := HB4.out.size; omega))); have HK5 : Hid (Blk w5 w3.heap.size 26 #[.int .u8 1, .int .u8 2, .int .u8 3, .int .u8 4, .int .u8 5, .int .u8 6, .int .u8 7, .int .u8 8, .int .i64 2, .int .i64 1, .int .i64 4, .int .i64 2, .int .i64 258]) := Lib.hid ((HK4.out.alloc _).below hb5 (by rw [alloc_size]; have := HK4.out.lt; omega)); have HZ5 : Hid (Blk w5 w4.heap.size 26 #[.int .u8 0, .int .u8 0, .int .u8 0, .int .u8 0, .int .u8 0, .int .u8 0, .int .u8 0, .int .u8 0, .int .i64 0, .int .i64 0, .int .i64 0, .int .i64 0, .int .i64 0]) := Lib.hid ((Blk.new w4 _ _).below hb5 (by rw [alloc_size]; omega)); have HD5 : Hid (Dr w5 p kS0 fun k => w.heap.size ≤ k ∧ k < w5.heap.size) := Lib.hid (hd5.mono fun k hk => ⟨by have h1 := HBX.out.size; have h2 := HB4.out.size; have h3 := hk.1; rw [alloc_size] at h3; omega, hk.2⟩); clear hd5 hb5))
  obtain ⟨b4, hb4⟩ : ∃ b, b = w3.heap.size := ⟨_, rfl⟩
  obtain ⟨b6, hb6⟩ : ∃ b, b = w4.heap.size := ⟨_, rfl⟩
  rw [← hb4] at HK5 ⊢
  rw [← hb6] at HZ5 ⊢
  have HSC : Hid (∀ V : World, V.heap[b4]? = w5.heap[b4]? → V.heap[b6]? = w5.heap[b6]? → (V.cell? ⟨b4, 0, none⟩ = some (.int .u8 1) ∧ V.cell? ⟨b4, 1, none⟩ = some (.int .u8 2) ∧ V.cell? ⟨b4, 2, none⟩ = some (.int .u8 3) ∧ V.cell? ⟨b4, 3, none⟩ = some (.int .u8 4) ∧ V.cell? ⟨b4, 4, none⟩ = some (.int .u8 5) ∧ V.cell? ⟨b4, 5, none⟩ = some (.int .u8 6) ∧ V.cell? ⟨b4, 6, none⟩ = some (.int .u8 7) ∧ V.cell? ⟨b4, 7, none⟩ = some (.int .u8 8) ∧ V.cell? ⟨b4, 8, none⟩ = some (.int .i64 2) ∧ V.cell? ⟨b4, 9, none⟩ = some (.int .i64 1) ∧ V.cell? ⟨b4, 10, none⟩ = some (.int .i64 4) ∧ V.cell? ⟨b4, 11, none⟩ = some (.int .i64 2) ∧ V.cell? ⟨b4, 12, none⟩ = some (.int .i64 258)) ∧ V.cell? ⟨b6, 0, none⟩ = some (.int .u8 0) ∧ V.cell? ⟨b6, 1, none⟩ = some (.int .u8 0) ∧ V.cell? ⟨b6, 2, none⟩ = some (.int .u8 0) ∧ V.cell? ⟨b6, 3, none⟩ = some (.int .u8 0) ∧ V.cell? ⟨b6, 4, none⟩ = some (.int .u8 0) ∧ V.cell? ⟨b6, 5, none⟩ = some (.int .u8 0) ∧ V.cell? ⟨b6, 6, none⟩ = some (.int .u8 0) ∧ V.cell? ⟨b6, 7, none⟩ = some (.int .u8 0) ∧ V.cell? ⟨b6, 8, none⟩ = some (.int .i64 0) ∧ V.cell? ⟨b6, 9, none⟩ = some (.int .i64 0) ∧ V.cell? ⟨b6, 10, none⟩ = some (.int .i64 0) ∧ V.cell? ⟨b6, 11, none⟩ = some (.int .i64 0) ∧ V.cell? ⟨b6, 12, none⟩ = some (.int .i64 0)) := Lib.hid fun V h1 h2 => ⟨⟨(World.cell?_of_block h1).trans (HK5.out.cell 0), (World.cell?_of_block h1).trans (HK5.out.cell 1), (World.cell?_of_block h1).trans (HK5.out.cell 2), (World.cell?_of_block h1).trans (HK5.out.cell 3), (World.cell?_of_block h1).trans (HK5.out.cell 4), (World.cell?_of_block h1).trans (HK5.out.cell 5), (World.cell?_of_block h1).trans (HK5.out.cell 6), (World.cell?_of_block h1).trans (HK5.out.cell 7), (World.cell?_of_block h1).trans (HK5.out.cell 8), (World.cell?_of_block h1).trans (HK5.out.cell 9), (World.cell?_of_block h1).trans (HK5.out.cell 10), (World.cell?_of_block h1).trans (HK5.out.cell 11), (World.cell?_of_block h1).trans (HK5.out.cell 12)⟩, (World.cell?_of_block h2).trans (HZ5.out.cell 0), (World.cell?_of_block h2).trans (HZ5.out.cell 1), (World.cell?_of_block h2).trans (HZ5.out.cell 2), (World.cell?_of_block h2).trans (HZ5.out.cell 3), (World.cell?_of_block h2).trans (HZ5.out.cell 4), (World.cell?_of_block h2).trans (HZ5.out.cell 5), (World.cell?_of_block h2).trans (HZ5.out.cell 6), (World.cell?_of_block h2).trans (HZ5.out.cell 7), (World.cell?_of_block h2).trans (HZ5.out.cell 8), (World.cell?_of_block h2).trans (HZ5.out.cell 9), (World.cell?_of_block h2).trans (HZ5.out.cell 10), (World.cell?_of_block h2).trans (HZ5.out.cell 11), (World.cell?_of_block h2).trans (HZ5.out.cell 12)⟩
  have hl4 : b4 < w5.heap.size := HK5.out.lt
  have hl6 : b6 < w5.heap.size := HZ5.out.lt
  have hs5 : w.heap.size ≤ w5.heap.size := by have h1 := HBX.out.size; have h2 := HB5.out.size; omega
  have HBW5 : Hid (Below w.heap.size w w5) := Lib.hid (HBX.out.trans (HB5.out.mono HBX.out.size))
  clear hb4 hb6
  go_cut [65] (fun s65 wx => s65 = .bool false ∧ Below w5.heap.size w5 wx)
  case first =>
    have hns := HNS.out
    have hnz := HNZ.out
    have e4 : w5.heap[b4]? = w5.heap[b4]? := rfl
    have e6 : w5.heap[b6]? = w5.heap[b6]? := rfl
    go_region_held3 (fun w' => (w'.cell? ⟨b4, 0, none⟩ = some (.int .u8 1) ∧ w'.cell? ⟨b4, 1, none⟩ = some (.int .u8 2) ∧ w'.cell? ⟨b4, 2, none⟩ = some (.int .u8 3) ∧ w'.cell? ⟨b4, 3, none⟩ = some (.int .u8 4) ∧ w'.cell? ⟨b4, 4, none⟩ = some (.int .u8 5) ∧ w'.cell? ⟨b4, 5, none⟩ = some (.int .u8 6) ∧ w'.cell? ⟨b4, 6, none⟩ = some (.int .u8 7) ∧ w'.cell? ⟨b4, 7, none⟩ = some (.int .u8 8) ∧ w'.cell? ⟨b4, 8, none⟩ = some (.int .i64 2) ∧ w'.cell? ⟨b4, 9, none⟩ = some (.int .i64 1) ∧ w'.cell? ⟨b4, 10, none⟩ = some (.int .i64 4) ∧ w'.cell? ⟨b4, 11, none⟩ = some (.int .i64 2) ∧ w'.cell? ⟨b4, 12, none⟩ = some (.int .i64 258)) ∧ w'.cell? ⟨b6, 0, none⟩ = some (.int .u8 0) ∧ w'.cell? ⟨b6, 1, none⟩ = some (.int .u8 0) ∧ w'.cell? ⟨b6, 2, none⟩ = some (.int .u8 0) ∧ w'.cell? ⟨b6, 3, none⟩ = some (.int .u8 0) ∧ w'.cell? ⟨b6, 4, none⟩ = some (.int .u8 0) ∧ w'.cell? ⟨b6, 5, none⟩ = some (.int .u8 0) ∧ w'.cell? ⟨b6, 6, none⟩ = some (.int .u8 0) ∧ w'.cell? ⟨b6, 7, none⟩ = some (.int .u8 0) ∧ w'.cell? ⟨b6, 8, none⟩ = some (.int .i64 0) ∧ w'.cell? ⟨b6, 9, none⟩ = some (.int .i64 0) ∧ w'.cell? ⟨b6, 10, none⟩ = some (.int .i64 0) ∧ w'.cell? ⟨b6, 11, none⟩ = some (.int .i64 0) ∧ w'.cell? ⟨b6, 12, none⟩ = some (.int .i64 0)) (first | exact HSC.out _ (by first | with_reducible assumption | exact rfl) (by first | with_reducible assumption | exact rfl) | go_keep)
      (first
        | (go_at_call 12; refine (HSA.out _).mono ?_; rintro e v1 ⟨rfl, hb⟩; have e4' : v1.heap[b4]? = w5.heap[b4]? := hb.block b4 hl4; have e6' : v1.heap[b6]? = w5.heap[b6]? := hb.block b6 hl6; have HV1 : Hid (Below w5.heap.size w5 v1) := Lib.hid (Below.trans (below_drew1 (Below.refl _ w5)) hb); clear hb))
    all_goals
      go_wp2_with fail
      go_meet
      exact ⟨rfl, HV1.out⟩
  case rest =>
    obtain ⟨rfl, hbc⟩ := hcut
    have HDC := Lib.hid (HD5.out.below hbc)
    have HBC : Hid (Below w.heap.size w wc) := Lib.hid (HBW5.out.trans (hbc.mono hs5))
    have hsc := hbc.size
    have HR0 : Hid (∀ V, Below wc.heap.size wc V → Calls Try.prog 10 #[.iface 50 (.pointer (some ⟨p, 0, none⟩))] V fun e w' => e = .returned (.tuple #[.agg #[.int .u8 0, .int .u8 0, .int .u8 0, .int .u8 0, .int .u8 0, .int .u8 0, .int .u8 0, .int .u8 0, .int .i64 0, .int .i64 0, .int .i64 0, .int .i64 0, .int .i64 0], .int .i64 110]) ∧ Below V.heap.size V w') := Lib.hid fun V hV => lread_any p kS0 _ [] 110 V (HDC.out.below hV) k_small.1 k_reads.1 (by decide)
    have HW0 : Hid (∀ V, Below wc.heap.size wc V → Calls Try.prog 11 #[.iface 50 (.pointer (some ⟨p, 0, none⟩)), .agg #[.int .u8 1, .int .u8 2, .int .u8 3, .int .u8 4, .int .u8 5, .int .u8 6, .int .u8 7, .int .u8 8, .int .i64 2, .int .i64 1, .int .i64 4, .int .i64 2, .int .i64 258]] V fun e w' => e = .returned (.int .i64 0) ∧ Dr w' p kS4.syncDir (grow (fun k => w.heap.size ≤ k ∧ k < w5.heap.size) V w') ∧ Touch (fun k => w.heap.size ≤ k ∧ k < w5.heap.size) V w') := Lib.hid fun V hV => lwrite_any p kS0 kS1 kS2 kS3 kS4 _ sampleL sample_wf sample_may V (HDC.out.below hV) (fun k hk => by have h1 := hV.size; have := hk.2; omega) k_small.1 k_small.2.1 k_small.2.2.1 k_small.2.2.2.1 k_steps.1 k_steps.2.1 k_steps.2.2.1 k_steps.2.2.2
    have hnz := HNZ.out
    clear hbc
    go_wp2_with (first
      | (go_at_call 10; have _t := tok2; clear tok2; refine (HR0.out _ (by first | exact Below.refl _ _ | exact below_drew1 (Below.refl _ _))).mono ?_; rintro e w6 ⟨rfl, hb6⟩; have HB6 : Hid (Below wc.heap.size wc w6) := Lib.hid hb6; clear hb6)
      | (go_at_call 12; refine (HSA.out _).mono ?_; rintro e w7 ⟨rfl, hb7⟩; have HB7 : Hid (Below wc.heap.size wc w7) := Lib.hid ((HB6.out.alloc HB6.out.size _).trans (hb7.mono (by rw [alloc_size]; have := HB6.out.size; omega))); clear hb7)
      | (go_at_call 11; refine (HW0.out w7 HB7.out).mono ?_; rintro e w8 ⟨rfl, hd8, ht8⟩; have HD8 := Lib.hid hd8; have HT8 := Lib.hid ht8; clear hd8 ht8)
      | (go_at_call 10; have HR8 : Hid (Calls Try.prog 10 #[.iface 50 (.pointer (some ⟨p, 0, none⟩))] w8 fun e w' => e = .returned (.tuple #[.agg #[.int .u8 1, .int .u8 2, .int .u8 3, .int .u8 4, .int .u8 5, .int .u8 6, .int .u8 7, .int .u8 8, .int .i64 2, .int .i64 1, .int .i64 4, .int .i64 2, .int .i64 258], .int .i64 0]) ∧ Below w8.heap.size w8 w') := Lib.hid (by have h := lread_any p kS4.syncDir _ sampleL.bytes 0 w8 HD8.out k_small.2.2.2.2 k_reads.2 (by rw [Lab.bytes_length _ rfl]; decide); rw [if_pos rfl, if_pos rfl, sample_parse] at h; exact h); refine HR8.out.mono ?_; rintro e w9 ⟨rfl, hb9⟩; have HB9 := Lib.hid hb9; clear hb9))
    have hs7 := HB7.out.size
    have hs8 := HT8.out.size
    have hs9 := HB9.out.size
    have HB97 : Hid (Below w.heap.size w w9) := Lib.hid (((HBC.out.trans (HB7.out.mono HBC.out.size)).trans (HT8.out.below (by have := HBC.out.size; omega) fun k hk => hk.1)).trans (HB9.out.mono (by have := HBC.out.size; omega)))
    refine wp_world fun X9 hX9 => ?_
    have HK9 : Hid (Blk X9 w9.heap.size 26 #[.int .u8 1, .int .u8 2, .int .u8 3, .int .u8 4, .int .u8 5, .int .u8 6, .int .u8 7, .int .u8 8, .int .i64 2, .int .i64 1, .int .i64 4, .int .i64 2, .int .i64 258]) := Lib.hid (by rw [hX9]; exact Blk.new _ _ _)
    have HBF : Hid (Below w.heap.size w X9) := Lib.hid (by rw [hX9]; exact HB97.out.alloc HB97.out.size _)
    obtain ⟨b9, hb9⟩ : ∃ b, b = w9.heap.size := ⟨_, rfl⟩
    rw [← hb9] at HK9 ⊢
    have HSD : Hid (∀ V : World, V.heap[b9]? = X9.heap[b9]? → V.cell? ⟨b9, 0, none⟩ = some (.int .u8 1) ∧ V.cell? ⟨b9, 1, none⟩ = some (.int .u8 2) ∧ V.cell? ⟨b9, 2, none⟩ = some (.int .u8 3) ∧ V.cell? ⟨b9, 3, none⟩ = some (.int .u8 4) ∧ V.cell? ⟨b9, 4, none⟩ = some (.int .u8 5) ∧ V.cell? ⟨b9, 5, none⟩ = some (.int .u8 6) ∧ V.cell? ⟨b9, 6, none⟩ = some (.int .u8 7) ∧ V.cell? ⟨b9, 7, none⟩ = some (.int .u8 8) ∧ V.cell? ⟨b9, 8, none⟩ = some (.int .i64 2) ∧ V.cell? ⟨b9, 9, none⟩ = some (.int .i64 1) ∧ V.cell? ⟨b9, 10, none⟩ = some (.int .i64 4) ∧ V.cell? ⟨b9, 11, none⟩ = some (.int .i64 2) ∧ V.cell? ⟨b9, 12, none⟩ = some (.int .i64 258)) := Lib.hid fun V h1 => ⟨(World.cell?_of_block h1).trans (HK9.out.cell 0), (World.cell?_of_block h1).trans (HK9.out.cell 1), (World.cell?_of_block h1).trans (HK9.out.cell 2), (World.cell?_of_block h1).trans (HK9.out.cell 3), (World.cell?_of_block h1).trans (HK9.out.cell 4), (World.cell?_of_block h1).trans (HK9.out.cell 5), (World.cell?_of_block h1).trans (HK9.out.cell 6), (World.cell?_of_block h1).trans (HK9.out.cell 7), (World.cell?_of_block h1).trans (HK9.out.cell 8), (World.cell?_of_block h1).trans (HK9.out.cell 9), (World.cell?_of_block h1).trans (HK9.out.cell 10), (World.cell?_of_block h1).trans (HK9.out.cell 11), (World.cell?_of_block h1).trans (HK9.out.cell 12)⟩
    have hl9 : b9 < X9.heap.size := HK9.out.lt
    have hes := HES.out
    have e9 : X9.heap[b9]? = X9.heap[b9]? := rfl
    have hsx : w.heap.size ≤ X9.heap.size := HBF.out.size
    clear hX9 hb9
    go_region_held3 (fun w' => w'.cell? ⟨b9, 0, none⟩ = some (.int .u8 1) ∧ w'.cell? ⟨b9, 1, none⟩ = some (.int .u8 2) ∧ w'.cell? ⟨b9, 2, none⟩ = some (.int .u8 3) ∧ w'.cell? ⟨b9, 3, none⟩ = some (.int .u8 4) ∧ w'.cell? ⟨b9, 4, none⟩ = some (.int .u8 5) ∧ w'.cell? ⟨b9, 5, none⟩ = some (.int .u8 6) ∧ w'.cell? ⟨b9, 6, none⟩ = some (.int .u8 7) ∧ w'.cell? ⟨b9, 7, none⟩ = some (.int .u8 8) ∧ w'.cell? ⟨b9, 8, none⟩ = some (.int .i64 2) ∧ w'.cell? ⟨b9, 9, none⟩ = some (.int .i64 1) ∧ w'.cell? ⟨b9, 10, none⟩ = some (.int .i64 4) ∧ w'.cell? ⟨b9, 11, none⟩ = some (.int .i64 2) ∧ w'.cell? ⟨b9, 12, none⟩ = some (.int .i64 258)) (first | exact HSD.out _ (by first | with_reducible assumption | exact rfl) | go_keep)
      (first
        | (go_at_call 12; refine (HSA.out _).mono ?_; rintro e v9 ⟨rfl, hb⟩; have e9' : v9.heap[b9]? = X9.heap[b9]? := hb.block b9 hl9; have HV9 : Hid (Below w.heap.size w v9) := Lib.hid (HBF.out.trans ((Below.trans (below_drew1 (Below.refl _ X9)) hb).mono hsx)); clear hb))
    all_goals
      go_wp2
      go_ret
      exact ⟨rfl, HV9.out⟩
end Go.Proofs.Ytdiaihpilniikaa
