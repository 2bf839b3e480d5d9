/- LabelAtomic: the walk. -/
import Derived.Test.YtdiaihpilniikaaGreatZkJ
import Derived.Deep.DeepCutAuto
namespace Go.Proofs.YtdiaihpilniikaaGreat
open Go.RowKit Go.Maps

/-- The head of a round. -/
structure LpAt (w : World) (q p n : Nat) (s4 s5 s6 : Value) (wr : World) : Prop where
  ex : ∃ (k : Nat) (nn : Bool) (may : List Lab) (X : Wnd) (S : Drv), k ≤ n ∧ k ≤ 2000 ∧ s6 = .int .i64 k ∧ s5 = .bool nn ∧ TS w.heap.size q p [] may s4 X S wr ∧ LAt may nn (7 * k) (7 * k) X S ∧ may.length ≤ k ∧ Below w.heap.size w wr
set_option maxRecDepth 100000 in
set_option maxHeartbeats 40000000 in
theorem labelAtomic_walk (A : Option Addr) (n c : Nat) (ts : List PTurn) (w : World) (hts : TurnsAt w w.heap.size A n ts) (hn : n ≤ 140737488351232) :
    Calls Tryz.prog 5 #[.slice A n c] w fun e w' => e = .returned (.bool true) ∧ Below w.heap.size w w' := by
  have HTS := Lib.hid hts
  clear hts
  go_enter Tryz.func5, Tryz.ntmps5
  go_wp2_with fail
  refine (newb_any 1048576 w (by decide) (by decide)).mono ?_
  rintro e w1 ⟨p, rfl, hd1, hb1⟩
  have HD1 : Hid (Drb w1 w.heap.size p (Drv.new 1048576)) := Lib.hid hd1
  have HB1 := Lib.hid hb1
  have hz1 := hb1.size
  clear hd1 hb1
  go_wp2_with fail
  refine (wnewb_any w.heap.size p (Drv.new 1048576) w1 hz1 HD1.out).mono ?_
  rintro e w2 ⟨q, rfl, hwd2, hb2⟩
  have HWD2 := Lib.hid hwd2
  have HB2 : Hid (Below w.heap.size w w2) := Lib.hid (HB1.out.trans (hb2.mono hz1))
  have hz2 := HB2.out.size
  clear hwd2 hb2
  go_wp2_with fail
  refine (known_any w2).mono ?_
  rintro e w3 ⟨rfl, hb3⟩
  have HB3 : Hid (Below w.heap.size w w3) := Lib.hid (HB2.out.trans (hb3.mono hz2))
  have HS3 : Hid (TS w.heap.size q p [] [] (.slice none 0 0) Wnd.new (Drv.new 1048576) w3) := Lib.hid ⟨_, (WDb.below HWD2.out hb3), fun k hk => hk, World.ownsRow_nil _ _ _ _, fun b hb => by simp [Value.ownBlock] at hb, fun b hb => by cases hb⟩
  have HI0 : Hid (LAt [] true 0 0 Wnd.new (Drv.new 1048576)) := Lib.hid ⟨⟨Wnd.Okn.new, Drv.new_inv _ _ (by decide) (by decide), rfl⟩, ⟨fun s hs => ⟨fun _ => .inl ⟨rfl, rfl⟩, fun _ => rfl⟩, fun s hs => ⟨fun _ => .inl ⟨rfl, rfl⟩, fun _ => rfl⟩, fun c hc => (by cases hc), fun s i hs hi => by rcases hi with hi | hi | ⟨c, hc, _⟩ <;> first | cases hi | cases hc⟩, rfl, fun l hl => by cases hl⟩
  clear hb3
  go_wp2_with fail
  go_loopw [4, 5, 6] (fun s4 s5 s6 wr => LpAt w q p n s4 s5 s6 wr) (fun _ _ s _ => n - (intOf s).toNat)
  case atStart => exact ⟨0, true, [], Wnd.new, Drv.new 1048576, Nat.zero_le _, Nat.zero_le _, rfl, rfl, HS3.out, HI0.out, Nat.zero_le _, HB3.out⟩
  case round =>
    obtain ⟨k, nn, may, X, S, hkn, hk2, rfl, rfl, hs, hL, hmk, hbw⟩ := hrel.ex
    clear hrel
    have HS := Lib.hid hs
    have HL := Lib.hid hL
    have HBW := Lib.hid hbw
    have hzw := hbw.size
    clear hs hL hbw
    by_cases hlt : k < n ∧ k < 2000
    · obtain ⟨hl1, hl2⟩ := hlt
      obtain ⟨x, hx⟩ : ∃ x, ts[k]? = some x := ⟨_, List.getElem?_eq_getElem (by rw [HTS.out.len]; exact hl1)⟩
      obtain ⟨b, off, L, rfl, hbB, hcells, hT⟩ := HTS.out.at_ k x hx
      have HT := Lib.hid hT
      have HWF := Lib.hid hT.wf
      obtain ⟨tv, htv⟩ : ∃ tv, tv = Value.agg (turnCells x L).toArray := ⟨_, rfl⟩
      have HLD : Hid ((loadVar 61 ⟨b, off + k * 21, none⟩).run Tryz.prog wr = .ok tv wr) := Lib.hid (by
        rw [htv]; exact load_turn hT.wf.st fun j u hu => (HBW.out.cell (p := ⟨b, off + k * 21 + j, none⟩) hbB).trans (hcells j u hu))
      obtain ⟨Y, hrun, hblk, hty, hsy⟩ := store_turn (x := x) (L := L) hT.wf.st (Blk.new wr 61 #[.int .u8 0, .int .u8 0, .int .u8 0, .int .u8 0, .int .u8 0, .int .u8 0, .int .u8 0, .int .u8 0, .int .i64 0, .int .i64 0, .int .i64 0, .int .i64 0, .int .i64 0, .slice none 0 0, .bool false, .bool false, .int .i64 0, .int .i64 0, .bool false, .slice none 0 0, .slice none 0 0]) rfl
      rw [← htv] at hrun
      have HRUN := Lib.hid hrun
      have hby : Below wr.heap.size wr Y := ((Below.refl _ wr).alloc (Nat.le_refl _) _).trans (hty.below (by rw [alloc_size]; omega) fun k hk => by omega)
      have hszy : Y.heap.size = wr.heap.size + 1 := by rw [hsy, alloc_size]
      have HC0 : Hid (Ct1 w.heap.size q p wr.heap.size (turnCells x L).toArray may u4 X S Y Y) := Lib.hid ⟨HS.out.out hby (by omega) (by omega), Below.refl _ _, hblk, by omega⟩
      have HBY : Hid (Below w.heap.size w Y) := Lib.hid (HBW.out.trans (hby.mono hzw))
      obtain ⟨fu, hfu⟩ : ∃ fu, fu = x.fused := ⟨_, rfl⟩
      obtain ⟨lo, hlo⟩ : ∃ lo, lo = x.lost := ⟨_, rfl⟩
      have HFU := Lib.hid hfu
      have HLO := Lib.hid hlo
      have HX := Lib.hid hx
      have HPR : Hid (∀ V, Below w.heap.size w V → Reads V V.heap.size 2 L.pp x.plan.length (planCells x.plan)) := Lib.hid fun V hV => (hT.plan.below hV).more hV.size
      have HNF : Hid (∀ (V : World) (F : Nat → Prop), (∀ k, F k → w.heap.size ≤ k) → 0 < x.plan.length → ∀ ad, L.pp = some ad → ¬F ad.block) := Lib.hid fun V F hF h0 ad hB hf => by
        obtain ⟨ad', e, hlt, _⟩ := hT.plan.2 h0
        rw [hB] at e
        have e' := Option.some.inj e
        subst e'
        have := hF _ hf; omega
      clear hcells hT htv hrun hblk hty hsy hby hfu hlo hx hszy
      have HY13 : Hid (Y.cell? ⟨wr.heap.size, 13, none⟩ = some (.slice L.pp x.plan.length L.cp)) := Lib.hid (turn_cell HWF.out.st HC0.out.box).1
      go_wp2_with (first
        | ((with_reducible refine wpList_load_at rfl 61 (.tmp 31) rfl ⟨b, off + k * 21, none⟩ ?_ tv ?_ ?_); rfl; exact HLD.out)
        | ((with_reducible refine wpList_store_at rfl 61 (.tmp 7) (.tmp 32) rfl ⟨wr.heap.size, 0, none⟩ ?_ tv ?_ Y ?_ ?_); rfl; rfl; exact HRUN.out; have y13 := HY13.out))
      go_wp2_with fail
      refine (HC0.out.step (E := fun e _ => e = .returned (.tuple #[])) (Y := X.arm x.plan) (T := S) fun F hF hFb => warm_any q p X S F L.pp x.plan.length L.cp x.plan Y hF (HPR.out Y HBY.out) (HNF.out Y F (fun k hk => (hFb k hk).1)) HT.out.lp).mono ?_
      rintro e w1 ⟨rfl, hc1⟩
      have HC1 := Lib.hid hc1
      clear hc1
      clear y13
      have y14 : w1.cell? ⟨wr.heap.size, 14, none⟩ = some (.bool x.away) := by exact (turn_cell HWF.out.st HC1.out.box).2.1
      go_wp2_with fail
      refine (HC1.out.step (E := fun e _ => e = .returned (.tuple #[])) (Y := ({ X.arm x.plan with away := x.away } : Wnd)) (T := S) fun F hF hFb => woffline_any q p (X.arm x.plan) S F x.away w1 hF).mono ?_
      rintro e w2 ⟨rfl, hc2⟩
      have HC2 := Lib.hid hc2
      clear hc2
      go_wp2_with fail
      refine (HC2.out.step (E := fun e _ => e = .returned (.tuple #[])) (Y := (({ X.arm x.plan with away := x.away } : Wnd).setFuse (-1) 0 0)) (T := S) fun F hF hFb => wfuse_any q p ({ X.arm x.plan with away := x.away } : Wnd) S F (-1) 0 0 w2 hF).mono ?_
      rintro e w3 ⟨rfl, hc3⟩
      have HC3 := Lib.hid hc3
      clear hc3
      have y15 : w3.cell? ⟨wr.heap.size, 15, none⟩ = some (.bool fu) := by rw [HFU.out]; exact (turn_cell HWF.out.st HC3.out.box).2.2.1
      have y16 : w3.cell? ⟨wr.heap.size, 16, none⟩ = some (.int .i64 x.call) := by exact (turn_cell HWF.out.st HC3.out.box).2.2.2.1
      have y17 : w3.cell? ⟨wr.heap.size, 17, none⟩ = some (.int .i64 x.inside) := by exact (turn_cell HWF.out.st HC3.out.box).2.2.2.2.1
      go_upto_if 44 with (fail)
      go_cut [3] (fun s3 wx => s3 = .pointer (some ⟨q, 0, none⟩) ∧ Ct1 w.heap.size q p wr.heap.size (turnCells x L).toArray may u4 (turnX X x.plan x.away fu x.call x.inside) S Y wx)
      case first =>
        cases fu with
        | true =>
          go_wp2_with fail
          refine (HC3.out.step (E := fun e _ => e = .returned (.tuple #[])) (Y := turnX X x.plan x.away true x.call x.inside) (T := S) fun F hF hFb => wfuse_any q p _ S F 0 x.call x.inside w3 hF).mono ?_
          rintro e w4 ⟨rfl, hc4⟩
          have HC4 := Lib.hid hc4
          clear hc4
          go_wp2
          go_meet
          case rel => exact ⟨rfl, HC4.out⟩
        | false =>
          go_wp2
          go_meet
          case rel => exact ⟨rfl, HC3.out⟩
      case rest =>
        obtain ⟨w4, rfl⟩ : ∃ x, x = wc := ⟨_, rfl⟩
        obtain ⟨rfl, hc4⟩ := hcut
        have HC4 := Lib.hid hc4
        clear hc4 y15 y16 y17
        obtain ⟨Yw, T, ev, may', nn', hto⟩ := turn_any HL.out hk2 hmk HWF.out (by have := HT.out.lp; omega)
        have HTO := Lib.hid hto
        obtain ⟨lv, hlv⟩ : ∃ lv, lv = labV x.lab := ⟨_, rfl⟩
        have HLV := Lib.hid hlv
        have HLB : Hid (∀ (V : World) (m' : List Lab) (mv' : Value) (X' : Wnd) (S' : Drv), Ct1 w.heap.size q p wr.heap.size (turnCells x L).toArray m' mv' X' S' Y V → (loadVar 27 ⟨wr.heap.size, 0, none⟩).run Tryz.prog V = .ok lv V) := Lib.hid fun V m' mv' X' S' hc => by rw [hlv]; exact turn_lab HWF.out.st hc.box
        obtain ⟨cq, hcq⟩ : ∃ c, c = Yw.calls := ⟨_, rfl⟩
        obtain ⟨sk, hsk⟩ : ∃ s, s = Yw.lit := ⟨_, rfl⟩
        obtain ⟨ft, hft⟩ : ∃ b, b = decide (x.lab.may = 0) := ⟨_, rfl⟩
        have HWR : Hid (Calls Tryz.prog 17 #[.iface 33 (.pointer (some ⟨q, 0, none⟩)), lv] w4 fun en w' => en = .returned (.int .i64 ev) ∧ Ct1 w.heap.size q p wr.heap.size (turnCells x L).toArray may u4 Yw T Y w') := Lib.hid (by rw [hlv, HFU.out] at *; exact write_turn HC4.out hto HWF.out)
        have HFT : Hid (∀ V, Calls Tryz.prog 23 #[lv] V fun en w' => en = .returned (.bool ft) ∧ Below V.heap.size V w') := Lib.hid fun V => by rw [hlv, hft]; exact fit_any x.lab HWF.out V
        have HCQ := Lib.hid hcq
        have HSK := Lib.hid hsk
        have HFB := Lib.hid hft
        have HOK : Hid Yw.Ok := Lib.hid (hto.kept.wnd.ok (by omega))
        clear hto hlv hcq hsk hft
        go_wp2_with (first
          | ((with_reducible refine wpList_load_at rfl 27 (.tmp 53) rfl ⟨wr.heap.size, 0, none⟩ ?_ lv ?_ ?_); rfl; exact HLB.out _ _ _ _ _ HC4.out)
          | (go_at_call 17; refine HWR.out.mono ?_; rintro e w5 ⟨rfl, hc5⟩; have HC5 := Lib.hid hc5; clear hc5))
        refine (HC5.out.look (E := fun e w' => e = .returned (.int .i64 cq) ∧ w5 = w') fun F hF => by rw [HCQ.out]; exact calls_any q _ Yw F w5 hF.wn).mono ?_
        rintro e w' ⟨rfl, rfl⟩
        go_wp2_with fail
        refine (HC5.out.look (E := fun e w' => e = .returned (.bool sk) ∧ w5 = w') fun F hF => by rw [HSK.out]; exact wlit_any q p Yw T F w5 hF).mono ?_
        rintro e w' ⟨rfl, rfl⟩
        go_wp2_with fail
        refine (HC5.out.step (E := fun e _ => e = .returned (.tuple #[])) (Y := Yw.rest sk) (T := T) fun F hF hFb => wrest_any q p Yw T F sk w5 hF HOK.out).mono ?_
        rintro e w6 ⟨rfl, hc6⟩
        have HC6 := Lib.hid hc6
        clear hc6
        go_wp2_with fail
        refine (HC6.out.step (E := fun e _ => e = .returned (.tuple #[])) (Y := ({ Yw.rest sk with away := false } : Wnd)) (T := T) fun F hF hFb => woffline_any q p (Yw.rest sk) T F false w6 hF).mono ?_
        rintro e w7 ⟨rfl, hc7⟩
        have HC7 := Lib.hid hc7
        clear hc7
        go_wp2_with fail
        refine (HC7.out.step (E := fun e _ => e = .returned (.tuple #[])) (Y := turnY Yw) (T := T) fun F hF hFb => by rw [HSK.out] at *; exact warm_any q p ({ Yw.rest Yw.lit with away := false } : Wnd) T F none 0 0 [] w7 hF Reads.none_ (fun h => absurd h (by decide)) (by decide)).mono ?_
        rintro e w8 ⟨rfl, hc8⟩
        have HC8 := Lib.hid hc8
        clear hc8
        have HBL : Hid (∀ V : World, (Instr.buildSlice 55 1 #[(0, lv)]).run Tryz.prog V = .ok (.slice (some ⟨V.heap.size, 0, none⟩) 1 1) (V.alloc (.cells (labCells x.lab) 27))) := Lib.hid fun V => by rw [HLV.out]; exact build_lab x.lab HWF.out.st V
        go_upto_if 70 with (first
          | ((with_reducible refine wpList_load_at rfl 27 (.tmp 67) rfl ⟨wr.heap.size, 0, none⟩ ?_ lv ?_ ?_); rfl; exact HLB.out _ _ _ _ _ HC8.out)
          | (go_at_call 23; refine (HFT.out w8).mono ?_; rintro e w9 ⟨rfl, hb9⟩; have HC9 := Lib.hid (HC8.out.below hb9); clear hb9))
        go_cut [3, 4, 5] (fun s3 s4 s5 wx => s3 = .pointer (some ⟨q, 0, none⟩) ∧ s5 = .bool nn' ∧ Ct1 w.heap.size q p wr.heap.size (turnCells x L).toArray may' s4 (turnY Yw) T Y wx)
        case first =>
          by_cases hm : x.lab.may = 0
          · have hf1 : ft = true := by rw [HFB.out]; simp [hm]
            subst hf1
            by_cases he : ev = 0
            · obtain ⟨hr1, hr2, _⟩ := HTO.out.ok hm he
              subst he
              have HR1 := Lib.hid hr1
              have HR2 := Lib.hid hr2
              clear hr1 hr2
              go_wp2_with (first
                | ((with_reducible refine wpList_load_at rfl 27 (.tmp 79) rfl ⟨wr.heap.size, 0, none⟩ ?_ lv ?_ ?_); rfl; exact HLB.out _ _ _ _ _ HC9.out)
                | ((with_reducible refine wpList_build_if 55 1 _ rfl ?_ #[(0, lv)] ?_ (.slice (some ⟨w9.heap.size, 0, none⟩) 1 1) (w9.alloc (.cells (labCells x.lab) 27)) ?_ ?_); rfl; (simp only [List.map_toArray, List.map_cons, List.map_nil]; rfl); exact HBL.out w9))
              go_meet
              case rel => exact ⟨rfl, by rw [HR2.out], by rw [HR1.out]; exact HC9.out.single x.lab HWF.out.st⟩
            · obtain ⟨hr1, hr2, hr3⟩ := HTO.out.no hm he
              have het : (ev == 0) = false := by simp [he]
              have HR1 := Lib.hid hr1
              have HR2 := Lib.hid hr2
              have HR3 := Lib.hid hr3
              have HET := Lib.hid het
              clear hr1 hr2 hr3
              obtain ⟨iL, hiL, hzL0, hzL1, hzL2⟩ := info_parts labInfo
              obtain ⟨aw, haw⟩ : ∃ a, a = x.away := ⟨_, rfl⟩
              obtain ⟨m, hmm⟩ : ∃ m, m = x.plan.length := ⟨_, rfl⟩
              have y13 : w9.cell? ⟨wr.heap.size, 13, none⟩ = some (.slice L.pp m L.cp) := by rw [hmm]; exact (turn_cell HWF.out.st HC9.out.box).1
              have y14 : w9.cell? ⟨wr.heap.size, 14, none⟩ = some (.bool aw) := by rw [haw]; exact (turn_cell HWF.out.st HC9.out.box).2.1
              have y15 : w9.cell? ⟨wr.heap.size, 15, none⟩ = some (.bool fu) := by rw [HFU.out]; exact (turn_cell HWF.out.st HC9.out.box).2.2.1
              have hba : Below w9.heap.size w9 (w9.alloc (.cells (labCells x.lab) 27)) := (Below.refl _ w9).alloc (Nat.le_refl _) _
              have HBA := Lib.hid hba
              have HROW := Lib.hid (HC9.out.below hba).ts.row
              have HRD := Lib.hid (Reads.of_own (own_one x.lab HWF.out.st HC9.out.hh (Blk.new w9 27 (labCells x.lab))))
              have HON : Hid (∀ u ∈ labRow [x.lab], u.oneCell' = true) := Lib.hid (by rw [labRow_one]; exact labCells_one x.lab)
              have HM1 : Hid (may.length + 1 ≤ maxLen) := Lib.hid (by unfold maxLen; omega)
              have HM2 : Hid ((may.length + 1) * 48 ≤ 140737488355328) := Lib.hid (by omega)
              have HM3 : Hid (w.heap.size ≤ (w9.alloc (.cells (labCells x.lab) 27)).heap.size) := Lib.hid (Nat.le_trans HC9.out.hh hba.size)
              have HMM := Lib.hid hmm
              have HAW := Lib.hid haw
              clear hba hmm haw
              by_cases hm0 : m = 0
              · subst hm0
                cases aw with
                | true =>
                  go_wp2_with (first
                    | ((with_reducible refine wpList_load_at rfl 27 (.tmp 97) rfl ⟨wr.heap.size, 0, none⟩ ?_ lv ?_ ?_); rfl; exact HLB.out _ _ _ _ _ HC9.out)
                    | ((with_reducible refine wpList_build_if 55 1 _ rfl ?_ #[(0, lv)] ?_ (.slice (some ⟨w9.heap.size, 0, none⟩) 1 1) (w9.alloc (.cells (labCells x.lab) 27)) ?_ ?_); rfl; (simp only [List.map_toArray, List.map_cons, List.map_nil]; rfl); exact HBL.out w9)
                    | (at_builtin; refine wpList_append_any _ rfl (.tmp 96) (.tmp 99) 55 rfl w.heap.size 27 iL _ 13 48 Tryz.underlying55 hiL hzL0 hzL1 hzL2 rfl (by omega) u4 may.length (labRow may) rfl HROW.out _ _ 1 1 (labRow [x.lab]) rfl HRD.out HON.out HM1.out HM2.out HM3.out ?_; intro v1 w10 hown1 hg1 hat1; have HC10 := Lib.hid (HC9.out.grown HBA.out x.lab hown1 hg1 hat1 (by decide) HC9.out.box); clear hown1 hg1 hat1))
                  go_meet
                  case rel => exact ⟨rfl, by rw [HR2.out], by rw [HR1.out]; exact HC10.out⟩
                | false =>
                  cases fu with
                  | true =>
                    go_wp2_with (first
                      | ((with_reducible refine wpList_load_at rfl 27 (.tmp 97) rfl ⟨wr.heap.size, 0, none⟩ ?_ lv ?_ ?_); rfl; exact HLB.out _ _ _ _ _ HC9.out)
                      | ((with_reducible refine wpList_build_if 55 1 _ rfl ?_ #[(0, lv)] ?_ (.slice (some ⟨w9.heap.size, 0, none⟩) 1 1) (w9.alloc (.cells (labCells x.lab) 27)) ?_ ?_); rfl; (simp only [List.map_toArray, List.map_cons, List.map_nil]; rfl); exact HBL.out w9)
                      | (at_builtin; refine wpList_append_any _ rfl (.tmp 96) (.tmp 99) 55 rfl w.heap.size 27 iL _ 13 48 Tryz.underlying55 hiL hzL0 hzL1 hzL2 rfl (by omega) u4 may.length (labRow may) rfl HROW.out _ _ 1 1 (labRow [x.lab]) rfl HRD.out HON.out HM1.out HM2.out HM3.out ?_; intro v1 w10 hown1 hg1 hat1; have HC10 := Lib.hid (HC9.out.grown HBA.out x.lab hown1 hg1 hat1 (by decide) HC9.out.box); clear hown1 hg1 hat1))
                    go_meet
                    case rel => exact ⟨rfl, by rw [HR2.out], by rw [HR1.out]; exact HC10.out⟩
                  | false => exact absurd ⟨List.eq_nil_of_length_eq_zero HMM.out.symm, HAW.out.symm, HFU.out.symm⟩ HR3.out
              · have htm : ((m : Int) == 0) = false := by simp; omega
                go_wp2_with (first
                  | ((with_reducible refine wpList_load_at rfl 27 (.tmp 97) rfl ⟨wr.heap.size, 0, none⟩ ?_ lv ?_ ?_); rfl; exact HLB.out _ _ _ _ _ HC9.out)
                  | ((with_reducible refine wpList_build_if 55 1 _ rfl ?_ #[(0, lv)] ?_ (.slice (some ⟨w9.heap.size, 0, none⟩) 1 1) (w9.alloc (.cells (labCells x.lab) 27)) ?_ ?_); rfl; (simp only [List.map_toArray, List.map_cons, List.map_nil]; rfl); exact HBL.out w9)
                  | (at_builtin; refine wpList_append_any _ rfl (.tmp 96) (.tmp 99) 55 rfl w.heap.size 27 iL _ 13 48 Tryz.underlying55 hiL hzL0 hzL1 hzL2 rfl (by omega) u4 may.length (labRow may) rfl HROW.out _ _ 1 1 (labRow [x.lab]) rfl HRD.out HON.out HM1.out HM2.out HM3.out ?_; intro v1 w10 hown1 hg1 hat1; have HC10 := Lib.hid (HC9.out.grown HBA.out x.lab hown1 hg1 hat1 (by decide) HC9.out.box); clear hown1 hg1 hat1))
                go_meet
                case rel => exact ⟨rfl, by rw [HR2.out], by rw [HR1.out]; exact HC10.out⟩
          · have hf1 : ft = false := by rw [HFB.out]; simp [hm]
            subst hf1
            obtain ⟨hb1, hb2, hb3, hb4, hb5⟩ := HTO.out.bad hm
            have he : (ev == 0) = false := by rw [hb1]; simp [hm]
            have hq0 : cq = 0 := by rw [HCQ.out, hb2]; exact (turnX_facts _ _ _ _ _ _).2.1
            subst hq0
            have HR1 := Lib.hid hb4
            have HR2 := Lib.hid hb5
            clear hb1 hb2 hb3 hb4 hb5
            go_wp2_with fail
            go_meet
            case rel => exact ⟨rfl, by rw [HR2.out], by rw [HR1.out]; exact HC9.out⟩
        case rest =>
          obtain ⟨w10, rfl⟩ : ∃ x, x = wc := ⟨_, rfl⟩
          obtain ⟨rfl, rfl, hc10⟩ := hcut
          have HC10 := Lib.hid hc10
          clear hc10
          go_upto_region 30 with fail
          go_cut [3, 4, 5, 114] (fun s3 s4 s5 sb wx => s3 = .pointer (some ⟨q, 0, none⟩) ∧ s5 = .bool nn' ∧ sb = .bool false ∧ ∃ V, Vok Yw V k ∧ Ct1 w.heap.size q p wr.heap.size (turnCells x L).toArray may' s4 V T Y wx)
          case first =>
            by_cases he : ev = 0
            · subst he
              cases sk with
              | true =>
                go_wp2_with fail
                go_meet
                case rel => exact ⟨rfl, rfl, rfl, _, HTO.out.vok, HC10.out⟩
              | false =>
                have hm : x.lab.may = 0 := Classical.byContradiction fun hm => hm (HTO.out.bad hm).1.symm
                have HAM := Lib.hid (HC10.out.among1 (HTO.out.vok.calm HSK.out.symm) (HTO.out.vok.okn.ok (by omega)) (HTO.out.kept.drv.small (by omega)) x.lab HWF.out.st hm (HTO.out.ok hm rfl).2.2)
                clear hm
                go_wp2_with (first
                  | ((with_reducible refine wpList_load_if 27 (.tmp 109) rfl ?_ ⟨wr.heap.size, 0, none⟩ ?_ lv ?_ ?_); rfl; rfl; exact HLB.out _ _ _ _ _ HC10.out)
                  | ((with_reducible refine wpList_build_if 55 1 _ rfl ?_ #[(0, lv)] ?_ (.slice (some ⟨w10.heap.size, 0, none⟩) 1 1) (w10.alloc (.cells (labCells x.lab) 27)) ?_ ?_); rfl; (simp only [List.map_toArray, List.map_cons, List.map_nil]; rfl); exact HBL.out w10)
                  | (go_at_call 24; refine HAM.out.mono ?_; rintro e w11 ⟨rfl, hc11⟩; have HC11 := Lib.hid hc11; clear hc11))
                go_meet
                case rel => exact ⟨rfl, rfl, rfl, _, HTO.out.vok1 HSK.out.symm, HC11.out⟩
            · have het : (ev == 0) = false := by simp [he]
              go_wp2_with fail
              go_meet
              case rel => exact ⟨rfl, rfl, rfl, _, HTO.out.vok, HC10.out⟩
          case rest =>
            obtain ⟨w11, rfl⟩ : ∃ x, x = wc := ⟨_, rfl⟩
            obtain ⟨rfl, rfl, rfl, V, hv, hc11⟩ := hcut
            have HV := Lib.hid hv
            have HC11 := Lib.hid hc11
            clear hv hc11
            go_upto_region 32 with fail
            go_cut [3, 4, 5, 119] (fun s3 s4 s5 sb wx => s3 = .pointer (some ⟨q, 0, none⟩) ∧ s5 = .bool nn' ∧ sb = .bool (sk || lo) ∧ Ct1 w.heap.size q p wr.heap.size (turnCells x L).toArray may' s4 V T Y wx)
            case first =>
              have y18 : w11.cell? ⟨wr.heap.size, 18, none⟩ = some (.bool lo) := by rw [HLO.out]; exact (turn_cell HWF.out.st HC11.out.box).2.2.2.2.2.1
              cases sk with
              | true =>
                go_wp2_with fail
                go_meet
                case rel => exact ⟨rfl, rfl, rfl, HC11.out⟩
              | false =>
                go_wp2_with fail
                go_meet
                case rel => exact ⟨rfl, rfl, rfl, HC11.out⟩
            case rest =>
              obtain ⟨w12, rfl⟩ : ∃ x, x = wc := ⟨_, rfl⟩
              obtain ⟨gb, hgb⟩ : ∃ g, g = (sk || lo) := ⟨_, rfl⟩
              obtain ⟨rfl, rfl, hsb, hc12⟩ := hcut
              rw [← hgb] at hsb
              subst hsb
              have HGB := Lib.hid hgb
              have HC12 := Lib.hid hc12
              clear hgb hc12
              go_upto_if 119 with fail
              go_cut [3, 4, 5] (fun s3 s4 s5 wx => s3 = .pointer (some ⟨q, 0, none⟩) ∧ s5 = .bool nn' ∧ ∃ V2 T2, Behind may' nn' k V2 T2 ∧ Ct1 w.heap.size q p wr.heap.size (turnCells x L).toArray may' s4 V2 T2 Y wx)
              case first =>
                cases gb with
                | false =>
                  have hsk : Yw.lit = false := by
                    have h := HGB.out
                    rw [← HSK.out]; cases sk with | false => rfl | true => cases h
                  have HBN := Lib.hid (HTO.out.behind HV.out hsk)
                  clear hsk
                  go_wp2_with fail
                  go_meet
                  case rel => exact ⟨rfl, rfl, _, _, HBN.out, HC12.out⟩
                | true =>
                  go_wp2_with fail
                  refine (HC12.out.step (E := fun e _ => e = .returned (.tuple #[])) (Y := ({ V with down := !false } : Wnd)) (T := T) fun F hF hFb => wpower_any q p V T F false w12 hF).mono ?_
                  rintro e w13 ⟨rfl, hc13⟩
                  have HC13 := Lib.hid hc13
                  clear hc13
                  have HFC : Hid (∀ (W : World) (mv' : Value) (X' : Wnd) (S' : Drv), Ct1 w.heap.size q p wr.heap.size (turnCells x L).toArray may' mv' X' S' Y W → W.cell? ⟨q, 0, none⟩ = some (.pointer (some ⟨p, 0, none⟩)) ∧ W.cell? ⟨wr.heap.size, 19, none⟩ = some (.slice L.pr x.dirs.length L.cr) ∧ W.cell? ⟨wr.heap.size, 20, none⟩ = some (.slice L.pc x.cuts.length L.cc)) := Lib.hid fun W mv' X' S' hc => ⟨hc.drv, (turn_cell HWF.out.st hc.box).2.2.2.2.2.2⟩
                  have HFR : Hid (∀ (W : World) (mv' : Value) (X' : Wnd) (S' : Drv), Ct1 w.heap.size q p wr.heap.size (turnCells x L).toArray may' mv' X' S' Y W → Reads W w.heap.size 1 L.pr x.dirs.length (x.dirs.map boolV) ∧ Reads W w.heap.size 1 L.pc x.cuts.length (x.cuts.map intV)) := Lib.hid fun W mv' X' S' hc => ⟨HT.out.dirs.below (HBY.out.trans hc.bel), HT.out.cuts.below (HBY.out.trans hc.bel)⟩
                  have kc13 := HC13.out
                  have kcd := kc13.below (below_drewN (Below.refl _ w13) 1)
                  have kf13 := HFC.out _ _ _ _ kc13
                  have HD3 := HT.out.ld
                  have HLC := HT.out.lc
                  go_wp2_with fail
                  go_region_held3 (fun w' => w'.cell? ⟨q, 0, none⟩ = some (.pointer (some ⟨p, 0, none⟩)) ∧ w'.cell? ⟨wr.heap.size, 19, none⟩ = some (.slice L.pr x.dirs.length L.cr) ∧ w'.cell? ⟨wr.heap.size, 20, none⟩ = some (.slice L.pc x.cuts.length L.cc)) (first | exact HFC.out _ _ _ _ (by assumption) | go_keep)
                    (first
                      | (go_at_call 27; refine (fate_any L.pr x.dirs.length L.cr x.dirs L.pc x.cuts.length L.cc x.cuts w13.drew w.heap.size (HFR.out _ _ _ _ kcd).1 (HFR.out _ _ _ _ kcd).2 kcd.hh HD3 HLC).mono ?_; rintro e w14 ⟨A3, c3, A3', c3', rfl, o3, o3', hb3⟩; have O3 := Lib.hid o3; have O3' := Lib.hid o3'; have kc14 := kcd.below hb3; clear hb3 o3 o3')
                      | (go_at_call 26; refine (kc14.step (E := fun e _ => e = .returned (.int .i64 0)) (Y := ({ V with down := !false } : Wnd)) (T := T.crash x.dirs x.cuts) fun F hF hFb => wcrash_any q p _ T _ F A3 x.dirs.length c3 x.dirs A3' x.cuts.length c3' x.cuts w14 hF HTO.out.kept.drv (by omega) (Reads.of_own O3.out) (Reads.of_own O3'.out) (spot_none O3.out) (spot_none O3'.out) HD3 (by omega)).mono ?_; rintro e w15 ⟨rfl, kc15⟩))
                  go_wp2_with fail
                  refine (kc15.step (E := fun e _ => e = .returned (.tuple #[])) (Y := ({ ({ V with down := !false } : Wnd) with down := !true } : Wnd)) (T := T.crash x.dirs x.cuts) fun F hF hFb => wpower_any q p ({ V with down := !false } : Wnd) (T.crash x.dirs x.cuts) F true w15 hF).mono ?_
                  rintro e w16 ⟨rfl, hc16⟩
                  have HC16 := Lib.hid hc16
                  have HBN := Lib.hid (HTO.out.lost HV.out x.dirs x.cuts)
                  clear hc16 kc13 kcd kf13 kc14 kc15
                  go_wp2_with fail
                  go_meet
                  case rel => exact ⟨rfl, rfl, _, _, HBN.out, HC16.out⟩
              case rest =>
                obtain ⟨w16, rfl⟩ : ∃ x, x = wc := ⟨_, rfl⟩
                obtain ⟨rfl, rfl, V2, T2, hbn, hc16⟩ := hcut
                have HBN := Lib.hid hbn
                have HC16 := Lib.hid hc16
                clear hbn hc16
                have HAM2 := Lib.hid (HC16.out.among HBN.out.calm HBN.out.kept (by omega) (by omega) (HBN.out.holds.now labN labN_ne) HTO.out.labs (by have := HTO.out.len; omega))
                go_wp2_with (first | (go_at_call 24; refine HAM2.out.mono ?_; rintro e w17 ⟨rfl, hc17⟩; have HC17 := Lib.hid hc17; clear hc17))
                go_roundw
                case rel => exact ⟨⟨k + 1, nn', may', V2.count, T2, by omega, by omega, by go_num, rfl, HC17.out.ts.forget, HBN.out.next hk2 HTO.out.labs, HTO.out.len, HBY.out.trans HC17.out.bel⟩⟩
                case measure => simp [intOf]; omega
    · go_wp2
      all_goals (go_ret; exact ⟨rfl, HBW.out⟩)
end Go.Proofs.YtdiaihpilniikaaGreat
