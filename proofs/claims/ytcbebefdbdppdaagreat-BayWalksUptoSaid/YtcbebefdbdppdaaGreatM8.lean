/- The contract of a wound's 'struck'.; A wound on its drive: both in one place; the calls of a wound.; Append of a wound. -/
import Derived.Test.YtcbebefdbdppdaaGreatM7
import Derived.Deep.RegionWith
namespace Go.Proofs.YtcbebefdbdppdaaGreat
open Go.RowKit Go.Maps
theorem plan_get (l : List (Int × Int)) : ∀ (k : Nat) (f : Int × Int), l[k]? = some f → (planCells l)[k * 2]? = some (.int .i64 f.1) ∧ (planCells l)[k * 2 + 1]? = some (.int .i64 f.2) := by
  induction l with
  | nil => intro k f h; simp at h
  | cons x r ih =>
    intro k f h
    cases k with
    | zero => simp at h; subst h; exact ⟨rfl, rfl⟩
    | succ k =>
      have := ih k f (by simpa using h)
      have e : (k + 1) * 2 = k * 2 + 2 := by omega
      rw [e]
      exact this
theorem WndAt.turn {w : World} {q : Nat} {dv : Value} {X : Wnd} {pv : Value} {fq : Option Nat} (h : WndAt w q dv X pv fq) (i : Nat) (v : Value) (Y : Wnd) (hp : Y.plan = X.plan) (hf : Y.fuse = X.fuse)
    (hc : (#[dv, .bool X.down, .bool X.away, pv, .int .i64 X.calls, .int .i64 X.round, fuseV fq] : Array Value).setIfInBounds i v = #[dv, .bool Y.down, .bool Y.away, pv, .int .i64 Y.calls, .int .i64 Y.round, fuseV fq]) :
    WndAt (w.setCell ⟨q, i, none⟩ v) q dv Y pv fq where
  head := by rw [← hc]; exact h.head.set_ i v
  plan := by
    rw [hp]
    refine ownsRow_keep h.plan fun k e => Below.heap_setCell _ _ _ _ ?_
    rintro rfl
    exact own_blk_ne h.plan h.head (by decide) e
  none_ := fun e => by rw [hf]; exact h.none_ e
  some_ := fun b e => by
    obtain ⟨f, e1, hb⟩ := h.some_ b e
    exact ⟨f, by rw [hf]; exact e1, hb.far (hb.ne_ h.head (by decide)) _⟩
theorem WndAt.count {w : World} {q : Nat} {dv : Value} {X : Wnd} {pv : Value} {fq : Option Nat} (h : WndAt w q dv X pv fq) :
    WndAt ((w.setCell ⟨q, 4, none⟩ (.int .i64 (X.calls + 1))).setCell ⟨q, 5, none⟩ (.int .i64 (X.round + 1))) q dv X.count pv fq :=
  (h.turn 4 (.int .i64 (X.calls + 1)) { X with calls := X.calls + 1 } rfl rfl rfl).turn 5 (.int .i64 (X.round + 1)) X.count rfl rfl rfl
set_option maxRecDepth 100000 in
set_option maxHeartbeats 1000000 in
theorem struck_any (q : Nat) (dv : Value) (X : Wnd) (F : Nat → Prop) (may : Bool) (w : World) (h : Wn w q dv X F) (hok : X.Ok) :
    Calls Tryz.prog 64 #[.pointer (some ⟨q, 0, none⟩), .bool may] w fun e w' =>
      e = .returned (.tuple #[.int .i64 (X.struck may).2.1, .int .i64 (X.struck may).2.2]) ∧ Wn w' q dv (X.struck may).1 F ∧ Touch F w w' := by
  have HW := Lib.hid h
  obtain ⟨pv, fq, hA, hF⟩ := h
  have h1 : w.cell? ⟨q, 1, none⟩ = some (.bool X.down) := hA.head.cell 1
  by_cases hd : X.down = true
  · have HS : Hid (X.struck may = (X, 122, -1)) := by unfold Wnd.struck; rw [if_pos hd]; exact rfl
    rw [HS.out]
    rw [hd] at h1
    clear hA hd
    go_enter Tryz.func64, Tryz.ntmps64
    go_wp2
    go_ret2
    exact ⟨rfl, HW.out, Touch.refl _ _⟩
  have hd' : X.down = false := by simpa using hd
  rw [hd'] at h1
  have h2 : w.cell? ⟨q, 2, none⟩ = some (.bool X.away) := hA.head.cell 2
  by_cases ha : X.away = true
  · have HS : Hid (X.struck may = (X, 121, -1)) := by unfold Wnd.struck; rw [if_neg hd, if_pos ha]; exact rfl
    rw [HS.out]
    rw [ha] at h2
    clear hA hd ha hd'
    go_enter Tryz.func64, Tryz.ntmps64
    go_wp2
    go_ret2
    exact ⟨rfl, HW.out, Touch.refl _ _⟩
  have ha' : X.away = false := by simpa using ha
  rw [ha'] at h2
  have h4 : w.cell? ⟨q, 4, none⟩ = some (.int .i64 X.calls) := hA.head.cell 4
  have h5 : w.cell? ⟨q, 5, none⟩ = some (.int .i64 X.round) := hA.head.cell 5
  have hcb := hok.calls
  have hrb := hok.round
  have hpb := hok.plan
  have HA := Lib.hid hA
  have HFF := Lib.hid hF
  have HND := Lib.hid hd
  have HNA := Lib.hid ha
  by_cases hh : X.hits = true
  · obtain ⟨Y, hY⟩ : ∃ Y : Wnd, Y = { X.count with down := true } := ⟨_, rfl⟩
    have HY := Lib.hid hY
    have HS : Hid (X.struck may = (Y, 122, X.inside)) := by rw [hY]; unfold Wnd.struck; rw [if_neg hd, if_neg ha, if_pos hh]; exact rfl
    rw [HS.out]
    cases fq with
    | none => exfalso; unfold Wnd.hits at hh; rw [hA.none_ rfl] at hh; cases hh
    | some b =>
    obtain ⟨f, hf, _⟩ := hA.some_ b rfl
    have hlit : X.count.lit = true := by
      unfold Wnd.hits at hh; unfold Wnd.lit; rw [hf] at hh; show (match X.fuse with | some f => f.round == 0 | none => false) = true; rw [hf]; simp at hh ⊢; exact hh.1
    have hcall : (f.call == X.round) = true := by unfold Wnd.hits at hh; rw [hf] at hh; simp at hh ⊢; exact hh.2
    have hins : X.inside = max 0 f.inside := by unfold Wnd.inside; rw [hf]
    have HF1 := Lib.hid hf
    have HLIT := Lib.hid hlit
    have HINS := Lib.hid hins
    clear hA hd ha hd' ha' hh hf hok hF hlit hins hY
    go_enter Tryz.func64, Tryz.ntmps64
    go_wp2
    go_quiet (fail)
    refine exit_world fun X1 hX => ?_
    have HA1 : Hid (WndAt X1 q dv X pv (some b)) := by rw [hX]; exact HA.out.keep fun _ _ => rfl
    have HT1 : Hid (Touch F w X1) := by rw [hX]; exact Touch.drewN _ _
    have y4 : X1.cell? ⟨q, 4, none⟩ = some (.int .i64 X.calls) := HA1.out.head.cell 4
    have y5 : X1.cell? ⟨q, 5, none⟩ = some (.int .i64 X.round) := HA1.out.head.cell 5
    have y4f : X1.frozen? ⟨q, 4, none⟩ = false := HA1.out.head.frozen 4
    have y5f : X1.frozen? ⟨q, 5, none⟩ = false := HA1.out.head.frozen 5
    have HC := Lib.hid HA1.out.count
    have hqF : F q := HFF.out q (.inl rfl)
    have HT3 : Hid (Touch F w ((X1.setCell ⟨q, 4, none⟩ (.int .i64 (X.calls + 1))).setCell ⟨q, 5, none⟩ (.int .i64 (X.round + 1)))) := (HT1.out.trans (Touch.setCell _ ⟨q, 4, none⟩ _ (Or.inl hqF))).trans (Touch.setCell _ ⟨q, 5, none⟩ _ (Or.inl hqF))
    clear hX h1 h2 h4 h5
    go_wp2_with (go_at_call 109; refine (lit_any q dv X.count pv (some b) _ HC.out).mono ?_; rintro e w2 ⟨rfl, hw2⟩; have HC2 : Hid (WndAt w2 q dv X.count pv (some b)) := hw2 ▸ HC; have HT2 : Hid (Touch F w w2) := hw2 ▸ HT3; clear hw2; rw [HLIT.out]; have z6 : w2.cell? ⟨q, 6, none⟩ = some (.pointer (some ⟨b, 0, none⟩)) := HC2.out.head.cell 6; obtain ⟨f2, hf2, hb2⟩ := HC2.out.some_ b rfl; have hff : f2 = f := Option.some.inj ((show X.fuse = some f2 from hf2).symm.trans HF1.out); rw [hff] at hb2; clear hff hf2; have zb1 : w2.cell? ⟨b, 1, none⟩ = some (.int .i64 f.call) := hb2.cell 1; have zb2 : w2.cell? ⟨b, 2, none⟩ = some (.int .i64 f.inside) := hb2.cell 2; have hbq : b ≠ q := hb2.ne_ HC2.out.head (by decide); have z1f : w2.frozen? ⟨q, 1, none⟩ = false := HC2.out.head.frozen 1; have z1 : w2.cell? ⟨q, 1, none⟩ = some (.bool X.down) := HC2.out.head.cell 1; clear hb2)
    go_region
    all_goals go_wp2
    all_goals (
      go_ret2
      refine ⟨by rw [HINS.out]; exact rfl, ⟨pv, some b, (HC2.out.turn 1 (.bool true) Y (by rw [HY.out]) (by rw [HY.out]) (by rw [HY.out]; rfl)).keep fun _ _ => rfl, fun k hk => HFF.out k hk⟩, ?_⟩
      exact (HT2.out.trans (Touch.setCell _ ⟨q, 1, none⟩ _ (Or.inl hqF))).trans (Touch.drewN _ 1))
  · have hh' : X.hits = false := by simpa using hh
    obtain ⟨z, hz⟩ : ∃ z, z = Wnd.scan may X.calls X.plan := ⟨_, rfl⟩
    have HS : Hid (X.struck may = (X.count, z, -1)) := by rw [hz]; unfold Wnd.struck; rw [if_neg hd, if_neg ha, if_neg hh]; exact rfl
    rw [HS.out]
    have HZ := Lib.hid hz
    obtain ⟨pa, pc, hpv, _⟩ := own_shape hA.plan
    obtain ⟨len, hlen⟩ : ∃ len, len = X.plan.length := ⟨_, rfl⟩
    have HLEN := Lib.hid hlen
    rw [← hlen] at hpb hpv
    subst hpv
    by_cases hl : X.lit = true
    · cases fq with
      | none => exfalso; unfold Wnd.lit at hl; rw [hA.none_ rfl] at hl; cases hl
      | some b =>
      obtain ⟨f, hf, _⟩ := hA.some_ b rfl
      have hlit : X.count.lit = true := hl
      have hcall : (f.call == X.round) = false := by
        unfold Wnd.lit at hl; rw [hf] at hl
        have hl2 : (f.round == 0) = true := hl
        unfold Wnd.hits at hh'; rw [hf] at hh'
        have hh2 : (f.round == 0 && f.call == X.round) = false := hh'
        rw [hl2, Bool.true_and] at hh2; exact hh2
      have HF1 := Lib.hid hf
      have HLIT := Lib.hid hlit
      clear hA hd ha hd' ha' hh hh' hf hok hF hlit hl hz hlen
      go_enter Tryz.func64, Tryz.ntmps64
      go_wp2
      go_quiet (fail)
      refine exit_world fun X1 hX => ?_
      have HA1 : Hid (WndAt X1 q dv X (.slice pa len pc) (some b)) := by rw [hX]; exact HA.out.keep fun _ _ => rfl
      have HT1 : Hid (Touch F w X1) := by rw [hX]; exact Touch.drewN _ _
      have y4 : X1.cell? ⟨q, 4, none⟩ = some (.int .i64 X.calls) := HA1.out.head.cell 4
      have y5 : X1.cell? ⟨q, 5, none⟩ = some (.int .i64 X.round) := HA1.out.head.cell 5
      have y4f : X1.frozen? ⟨q, 4, none⟩ = false := HA1.out.head.frozen 4
      have y5f : X1.frozen? ⟨q, 5, none⟩ = false := HA1.out.head.frozen 5
      have HC := Lib.hid HA1.out.count
      have hqF : F q := HFF.out q (.inl rfl)
      have HT3 : Hid (Touch F w ((X1.setCell ⟨q, 4, none⟩ (.int .i64 (X.calls + 1))).setCell ⟨q, 5, none⟩ (.int .i64 (X.round + 1)))) := (HT1.out.trans (Touch.setCell _ ⟨q, 4, none⟩ _ (Or.inl hqF))).trans (Touch.setCell _ ⟨q, 5, none⟩ _ (Or.inl hqF))
      clear hX h1 h2 h4 h5
      go_wp2_with (go_at_call 109; refine (lit_any q dv X.count (.slice pa len pc) (some b) _ HC.out).mono ?_; rintro e w2 ⟨rfl, hw2⟩; have HC2 : Hid (WndAt w2 q dv X.count (.slice pa len pc) (some b)) := hw2 ▸ HC; have HT2 : Hid (Touch F w w2) := hw2 ▸ HT3; clear hw2; rw [HLIT.out]; have z6 : w2.cell? ⟨q, 6, none⟩ = some (.pointer (some ⟨b, 0, none⟩)) := HC2.out.head.cell 6; obtain ⟨f2, hf2, hb2⟩ := HC2.out.some_ b rfl; have hff : f2 = f := Option.some.inj ((show X.fuse = some f2 from hf2).symm.trans HF1.out); rw [hff] at hb2; clear hff hf2; have zb1 : w2.cell? ⟨b, 1, none⟩ = some (.int .i64 f.call) := hb2.cell 1; clear hb2; have z3 : w2.cell? ⟨q, 3, none⟩ = some (.slice pa len pc) := HC2.out.head.cell 3)
      go_loopw [74] (fun s wr => ∃ k : Nat, k ≤ len ∧ s = .int .i64 k ∧ Wnd.scan may X.calls (X.plan.drop k) = z ∧ Below w2.heap.size w2 wr) (fun s _ => len - (intOf s).toNat)
      case atStart => exact ⟨0, Nat.zero_le _, rfl, by rw [HZ.out]; rfl, Below.refl _ _⟩
      case round =>
        obtain ⟨k, hk, rfl, hsc, hbk⟩ := hrel
        have HSC := Lib.hid hsc
        have HBK := Lib.hid hbk
        have HFIN : Hid (Wn wr q dv X.count F ∧ Touch F w wr) := by
          have t : Touch F w wr := HT2.out.trans (Touch.of_below hbk)
          exact ⟨⟨_, _, HC2.out.keep fun q' hq' => hbk.block q' (HC2.out.foot_lt hq'), HFF.out⟩, t⟩
        clear hsc
        by_cases hlt : k < len
        · obtain ⟨f, hfk⟩ : ∃ f, X.plan[k]? = some f := ⟨_, List.getElem?_eq_getElem (by rw [← HLEN.out]; exact hlt)⟩
          obtain ⟨c1, c2⟩ := plan_get _ _ _ hfk
          have hpl := HC2.out.plan
          have hlen' : X.count.plan.length = len := HLEN.out.symm
          rw [hlen'] at hpl
          obtain ⟨g, cap, hv, _, hglt⟩ := hpl.form (by omega)
          have hpa : pa = some ⟨g, 0, none⟩ := by injection hv
          subst hpa
          have x1 : wr.cell? ⟨g, k * 2, none⟩ = some (.int .i64 f.1) := by
            have := hpl.cells (g := g) rfl (k * 2) _ c1
            rw [hbk.cell (p := ⟨g, k * 2, none⟩) hglt]; simpa [add_plain] using this
          have x2 : wr.cell? ⟨g, k * 2 + 1, none⟩ = some (.int .i64 f.2) := by
            have := hpl.cells (g := g) rfl (k * 2 + 1) _ c2
            rw [hbk.cell (p := ⟨g, k * 2 + 1, none⟩) hglt]; simpa [add_plain] using this
          have hdr : X.plan.drop k = f :: X.plan.drop (k + 1) := by
            rw [List.drop_eq_getElem_cons (by rw [← HLEN.out]; exact hlt)]
            congr 1
            rw [List.getElem?_eq_getElem (by rw [← HLEN.out]; exact hlt)] at hfk
            injection hfk
          have hsz := HBK.out.size
          clear c1 c2 hpl hv hbk hfk hlen'
          by_cases e1 : f.1 = X.calls
          · have b1 : (f.1 != X.calls) = false := by simp [e1]
            have hz1 : z = if f.2 = 1 then 120 else if f.2 = 2 ∧ may = true then 111 else 0 := by
              have := HSC.out; rw [hdr] at this; unfold Wnd.scan at this; rw [if_pos e1] at this; exact this.symm
            clear hdr
            have HE1 := Lib.hid e1; clear e1
            by_cases e2 : f.2 = 1
            · have b2 : (f.2 == 1) = true := by simp [e2]
              rw [if_pos e2] at hz1
              have HZ1 := Lib.hid hz1; clear hz1 e2
              go_wp2
              go_ret2
              exact ⟨by rw [HZ1.out]; exact rfl, HFIN.out.1.keep (Touch.alloc (F := fun _ => False) _ _) (fun _ _ h => h), HFIN.out.2.trans (Touch.alloc _ _)⟩
            · have b2 : (f.2 == 1) = false := by simp [e2]
              rw [if_neg e2] at hz1
              clear e2
              by_cases e3 : f.2 = 2
              · have b3 : (f.2 == 2) = true := by simp [e3]
                cases may with
                | true =>
                  rw [if_pos ⟨e3, rfl⟩] at hz1
                  have HZ1 := Lib.hid hz1; clear hz1 e3
                  go_wp2
                  go_ret2
                  exact ⟨by rw [HZ1.out]; exact rfl, HFIN.out.1.keep (Touch.alloc (F := fun _ => False) _ _) (fun _ _ h => h), HFIN.out.2.trans (Touch.alloc _ _)⟩
                | false =>
                  rw [if_neg (by rintro ⟨_, h⟩; cases h)] at hz1
                  have HZ1 := Lib.hid hz1; clear hz1 e3
                  go_wp2
                  go_ret2
                  exact ⟨by rw [HZ1.out]; exact rfl, HFIN.out.1.keep (Touch.alloc (F := fun _ => False) _ _) (fun _ _ h => h), HFIN.out.2.trans (Touch.alloc _ _)⟩
              · have b3 : (f.2 == 2) = false := by simp [e3]
                rw [if_neg (by rintro ⟨h, _⟩; exact e3 h)] at hz1
                have HZ1 := Lib.hid hz1; clear hz1 e3
                go_wp2
                go_ret2
                exact ⟨by rw [HZ1.out]; exact rfl, HFIN.out.1.keep (Touch.alloc (F := fun _ => False) _ _) (fun _ _ h => h), HFIN.out.2.trans (Touch.alloc _ _)⟩
          · have b1 : (f.1 != X.calls) = true := by simp [e1]
            have hz1 : Wnd.scan may X.calls (X.plan.drop (k + 1)) = z := by
              have := HSC.out; rw [hdr] at this; unfold Wnd.scan at this; rw [if_neg e1] at this; exact this
            have HZ1 := Lib.hid hz1
            clear hdr hz1 e1
            go_wp2
            go_roundw
            case rel => exact ⟨k + 1, by omega, by go_num, HZ1.out, HBK.out.alloc hsz _⟩
            case measure => simp [intOf]; omega
        · have hkl : k = len := by omega
          have hz1 : z = 0 := by have := HSC.out; rw [hkl, HLEN.out, List.drop_length] at this; exact this.symm
          have HZ1 := Lib.hid hz1
          clear hz1
          subst hkl
          go_wp2
          go_ret2
          exact ⟨by rw [HZ1.out]; exact rfl, HFIN.out.1, HFIN.out.2⟩
    · have hlit0 : X.lit = false := by simpa using hl
      have hlit : X.count.lit = false := hlit0
      clear hlit0
      have HLIT := Lib.hid hlit
      clear hA hd ha hd' ha' hh hh' hok hF hlit hl hz hlen
      go_enter Tryz.func64, Tryz.ntmps64
      go_wp2
      go_quiet (fail)
      refine exit_world fun X1 hX => ?_
      have HA1 : Hid (WndAt X1 q dv X (.slice pa len pc) fq) := by rw [hX]; exact HA.out.keep fun _ _ => rfl
      have HT1 : Hid (Touch F w X1) := by rw [hX]; exact Touch.drewN _ _
      have y4 : X1.cell? ⟨q, 4, none⟩ = some (.int .i64 X.calls) := HA1.out.head.cell 4
      have y5 : X1.cell? ⟨q, 5, none⟩ = some (.int .i64 X.round) := HA1.out.head.cell 5
      have y4f : X1.frozen? ⟨q, 4, none⟩ = false := HA1.out.head.frozen 4
      have y5f : X1.frozen? ⟨q, 5, none⟩ = false := HA1.out.head.frozen 5
      have HC := Lib.hid HA1.out.count
      have hqF : F q := HFF.out q (.inl rfl)
      have HT3 : Hid (Touch F w ((X1.setCell ⟨q, 4, none⟩ (.int .i64 (X.calls + 1))).setCell ⟨q, 5, none⟩ (.int .i64 (X.round + 1)))) := (HT1.out.trans (Touch.setCell _ ⟨q, 4, none⟩ _ (Or.inl hqF))).trans (Touch.setCell _ ⟨q, 5, none⟩ _ (Or.inl hqF))
      clear hX h1 h2 h4 h5
      go_wp2_with (go_at_call 109; refine (lit_any q dv X.count (.slice pa len pc) fq _ HC.out).mono ?_; rintro e w2 ⟨rfl, hw2⟩; have HC2 : Hid (WndAt w2 q dv X.count (.slice pa len pc) fq) := hw2 ▸ HC; have HT2 : Hid (Touch F w w2) := hw2 ▸ HT3; clear hw2; rw [HLIT.out]; have z3 : w2.cell? ⟨q, 3, none⟩ = some (.slice pa len pc) := HC2.out.head.cell 3)
      go_loopw [74] (fun s wr => ∃ k : Nat, k ≤ len ∧ s = .int .i64 k ∧ Wnd.scan may X.calls (X.plan.drop k) = z ∧ Below w2.heap.size w2 wr) (fun s _ => len - (intOf s).toNat)
      case atStart => exact ⟨0, Nat.zero_le _, rfl, by rw [HZ.out]; rfl, Below.refl _ _⟩
      case round =>
        obtain ⟨k, hk, rfl, hsc, hbk⟩ := hrel
        have HSC := Lib.hid hsc
        have HBK := Lib.hid hbk
        have HFIN : Hid (Wn wr q dv X.count F ∧ Touch F w wr) := by
          have t : Touch F w wr := HT2.out.trans (Touch.of_below hbk)
          exact ⟨⟨_, _, HC2.out.keep fun q' hq' => hbk.block q' (HC2.out.foot_lt hq'), HFF.out⟩, t⟩
        clear hsc
        by_cases hlt : k < len
        · obtain ⟨f, hfk⟩ : ∃ f, X.plan[k]? = some f := ⟨_, List.getElem?_eq_getElem (by rw [← HLEN.out]; exact hlt)⟩
          obtain ⟨c1, c2⟩ := plan_get _ _ _ hfk
          have hpl := HC2.out.plan
          have hlen' : X.count.plan.length = len := HLEN.out.symm
          rw [hlen'] at hpl
          obtain ⟨g, cap, hv, _, hglt⟩ := hpl.form (by omega)
          have hpa : pa = some ⟨g, 0, none⟩ := by injection hv
          subst hpa
          have x1 : wr.cell? ⟨g, k * 2, none⟩ = some (.int .i64 f.1) := by
            have := hpl.cells (g := g) rfl (k * 2) _ c1
            rw [hbk.cell (p := ⟨g, k * 2, none⟩) hglt]; simpa [add_plain] using this
          have x2 : wr.cell? ⟨g, k * 2 + 1, none⟩ = some (.int .i64 f.2) := by
            have := hpl.cells (g := g) rfl (k * 2 + 1) _ c2
            rw [hbk.cell (p := ⟨g, k * 2 + 1, none⟩) hglt]; simpa [add_plain] using this
          have hdr : X.plan.drop k = f :: X.plan.drop (k + 1) := by
            rw [List.drop_eq_getElem_cons (by rw [← HLEN.out]; exact hlt)]
            congr 1
            rw [List.getElem?_eq_getElem (by rw [← HLEN.out]; exact hlt)] at hfk
            injection hfk
          have hsz := HBK.out.size
          clear c1 c2 hpl hv hbk hfk hlen'
          by_cases e1 : f.1 = X.calls
          · have b1 : (f.1 != X.calls) = false := by simp [e1]
            have hz1 : z = if f.2 = 1 then 120 else if f.2 = 2 ∧ may = true then 111 else 0 := by
              have := HSC.out; rw [hdr] at this; unfold Wnd.scan at this; rw [if_pos e1] at this; exact this.symm
            clear hdr
            have HE1 := Lib.hid e1; clear e1
            by_cases e2 : f.2 = 1
            · have b2 : (f.2 == 1) = true := by simp [e2]
              rw [if_pos e2] at hz1
              have HZ1 := Lib.hid hz1; clear hz1 e2
              go_wp2
              go_ret2
              exact ⟨by rw [HZ1.out]; exact rfl, HFIN.out.1.keep (Touch.alloc (F := fun _ => False) _ _) (fun _ _ h => h), HFIN.out.2.trans (Touch.alloc _ _)⟩
            · have b2 : (f.2 == 1) = false := by simp [e2]
              rw [if_neg e2] at hz1
              clear e2
              by_cases e3 : f.2 = 2
              · have b3 : (f.2 == 2) = true := by simp [e3]
                cases may with
                | true =>
                  rw [if_pos ⟨e3, rfl⟩] at hz1
                  have HZ1 := Lib.hid hz1; clear hz1 e3
                  go_wp2
                  go_ret2
                  exact ⟨by rw [HZ1.out]; exact rfl, HFIN.out.1.keep (Touch.alloc (F := fun _ => False) _ _) (fun _ _ h => h), HFIN.out.2.trans (Touch.alloc _ _)⟩
                | false =>
                  rw [if_neg (by rintro ⟨_, h⟩; cases h)] at hz1
                  have HZ1 := Lib.hid hz1; clear hz1 e3
                  go_wp2
                  go_ret2
                  exact ⟨by rw [HZ1.out]; exact rfl, HFIN.out.1.keep (Touch.alloc (F := fun _ => False) _ _) (fun _ _ h => h), HFIN.out.2.trans (Touch.alloc _ _)⟩
              · have b3 : (f.2 == 2) = false := by simp [e3]
                rw [if_neg (by rintro ⟨h, _⟩; exact e3 h)] at hz1
                have HZ1 := Lib.hid hz1; clear hz1 e3
                go_wp2
                go_ret2
                exact ⟨by rw [HZ1.out]; exact rfl, HFIN.out.1.keep (Touch.alloc (F := fun _ => False) _ _) (fun _ _ h => h), HFIN.out.2.trans (Touch.alloc _ _)⟩
          · have b1 : (f.1 != X.calls) = true := by simp [e1]
            have hz1 : Wnd.scan may X.calls (X.plan.drop (k + 1)) = z := by
              have := HSC.out; rw [hdr] at this; unfold Wnd.scan at this; rw [if_neg e1] at this; exact this
            have HZ1 := Lib.hid hz1
            clear hdr hz1 e1
            go_wp2
            go_roundw
            case rel => exact ⟨k + 1, by omega, by go_num, HZ1.out, HBK.out.alloc hsz _⟩
            case measure => simp [intOf]; omega
        · have hkl : k = len := by omega
          have hz1 : z = 0 := by have := HSC.out; rw [hkl, HLEN.out, List.drop_length] at this; exact this.symm
          have HZ1 := Lib.hid hz1
          clear hz1
          subst hkl
          go_wp2
          go_ret2
          exact ⟨by rw [HZ1.out]; exact rfl, HFIN.out.1, HFIN.out.2⟩
end Go.Proofs.YtcbebefdbdppdaaGreat
namespace Go.Proofs.YtcbebefdbdppdaaGreat
open Go.RowKit Go.Maps
structure Apart (w : World) (q p : Nat) (X : Wnd) (S : Drv) (FW FD : Nat → Prop) : Prop where
  wn : Wn w q (.pointer (some ⟨p, 0, none⟩)) X FW
  dr : Dr w p S FD
  wlt : ∀ k, FW k → k < w.heap.size
  dlt : ∀ k, FD k → k < w.heap.size
  no : ∀ k, FW k → ¬FD k
def WD (w : World) (q p : Nat) (X : Wnd) (S : Drv) (F : Nat → Prop) : Prop := ∃ FW FD, Apart w q p X S FW FD ∧ ∀ k, FW k ∨ FD k → F k
section
variable {w w1 w2 : World} {q p : Nat} {X Y : Wnd} {S T : Drv} {F G FW FD : Nat → Prop}
theorem Apart.wound (h : Apart w q p X S FW FD) (hw : Wn w1 q (.pointer (some ⟨p, 0, none⟩)) Y FW) (ht : Touch FW w w1) : Apart w1 q p Y S FW FD where
  wn := hw
  dr := h.dr.keep ht fun k hd hw => h.no k hw hd
  wlt := fun k hk => Nat.lt_of_lt_of_le (h.wlt k hk) ht.size
  dlt := fun k hk => Nat.lt_of_lt_of_le (h.dlt k hk) ht.size
  no := h.no
theorem Apart.drive (h : Apart w q p X S FW FD) (hd : Dr w1 p T (grow FD w w1)) (ht : Touch FD w w1) : Apart w1 q p X T FW (grow FD w w1) where
  wn := h.wn.keep ht fun k hw hd => h.no k hw hd
  dr := hd
  wlt := fun k hk => Nat.lt_of_lt_of_le (h.wlt k hk) ht.size
  dlt := fun k hk => by
    rcases hk with hk | hk
    · exact Nat.lt_of_lt_of_le (h.dlt k hk) ht.size
    · exact hk.2
  no := fun k hw hd => by
    rcases hd with hd | hd
    · exact h.no k hw hd
    · exact absurd (h.wlt k hw) (by omega)
theorem Apart.below (h : Apart w q p X S FW FD) (hb : Below w.heap.size w w1) : Apart w1 q p X S FW FD where
  wn := h.wn.keep (Touch.of_below (F := fun _ => False) hb) fun _ _ h => h
  dr := h.dr.keep (Touch.of_below (F := fun _ => False) hb) fun _ _ h => h
  wlt := fun k hk => Nat.lt_of_lt_of_le (h.wlt k hk) hb.size
  dlt := fun k hk => Nat.lt_of_lt_of_le (h.dlt k hk) hb.size
  no := h.no
theorem WD.mono (h : WD w q p X S F) (hFG : ∀ k, F k → G k) : WD w q p X S G := by
  obtain ⟨FW, FD, h, hf⟩ := h
  exact ⟨FW, FD, h, fun k hk => hFG k (hf k hk)⟩
theorem WD.keep (h : WD w q p X S F) (ht : Touch G w w1) (hd : ∀ k, F k → ¬G k) : WD w1 q p X S F := by
  obtain ⟨FW, FD, h, hf⟩ := h
  exact ⟨FW, FD, ⟨h.wn.keep ht fun k hk => hd k (hf k (.inl hk)), h.dr.keep ht fun k hk => hd k (hf k (.inr hk)), fun k hk => Nat.lt_of_lt_of_le (h.wlt k hk) ht.size, fun k hk => Nat.lt_of_lt_of_le (h.dlt k hk) ht.size, h.no⟩, hf⟩
theorem both_steps (h : Apart w q p X S FW FD) (hF : ∀ k, FW k ∨ FD k → F k) (hw : Wn w1 q (.pointer (some ⟨p, 0, none⟩)) Y FW) (ht : Touch FW w w1) (hd : Dr w2 p T (grow FD w1 w2)) (ht2 : Touch FD w1 w2) :
    WD w2 q p Y T (grow F w w2) ∧ Touch F w w2 := by
  have h1 := h.wound hw ht
  have h2 := h1.drive hd ht2
  refine ⟨⟨_, _, h2, ?_⟩, ?_⟩
  · rintro k (hk | hk | hk)
    · exact .inl (hF k (.inl hk))
    · exact .inl (hF k (.inr hk))
    · exact .inr ⟨by have := ht.size; omega, hk.2⟩
  · exact (ht.mono fun k _ hk => hF k (.inl hk)).trans (ht2.mono fun k _ hk => .inl (hF k (.inr hk)))
theorem wound_step (h : Apart w q p X S FW FD) (hF : ∀ k, FW k ∨ FD k → F k) (hw : Wn w1 q (.pointer (some ⟨p, 0, none⟩)) Y FW) (ht : Touch FW w w1) :
    WD w1 q p Y S (grow F w w1) ∧ Touch F w w1 :=
  ⟨⟨_, _, h.wound hw ht, fun k hk => .inl (hF k hk)⟩, ht.mono fun k _ hk => hF k (.inl hk)⟩
theorem read_steps (h : Apart w q p X S FW FD) (hF : ∀ k, FW k ∨ FD k → F k) (hw : Wn w1 q (.pointer (some ⟨p, 0, none⟩)) Y FW) (ht : Touch FW w w1) (hb : Below w1.heap.size w1 w2) :
    WD w2 q p Y S F ∧ Touch F w w2 :=
  ⟨⟨_, _, (h.wound hw ht).below hb, hF⟩, (ht.mono fun k _ hk => hF k (.inl hk)).trans (Touch.of_below hb)⟩
theorem wound_step0 (h : Apart w q p X S FW FD) (hF : ∀ k, FW k ∨ FD k → F k) (hw : Wn w1 q (.pointer (some ⟨p, 0, none⟩)) Y FW) (ht : Touch FW w w1) :
    WD w1 q p Y S F ∧ Touch F w w1 := ⟨⟨_, _, h.wound hw ht, hF⟩, ht.mono fun k _ hk => hF k (.inl hk)⟩
end
def wcall (X : Wnd) (S : Drv) (may : Bool) (f : Drv × Int) : Wnd × Drv × Int :=
  if (X.struck may).2.1 = 0 then ((X.struck may).1, f.1, f.2) else ((X.struck may).1, S, (X.struck may).2.1)
theorem head_cell {w : World} {q : Nat} {dv : Value} {X : Wnd} {F : Nat → Prop} (h : Wn w q dv X F) : w.cell? ⟨q, 0, none⟩ = some dv := by
  obtain ⟨pv, fq, h, _⟩ := h
  exact h.head.cell 0
theorem wcreate_any (q p : Nat) (X : Wnd) (S : Drv) (F : Nat → Prop) (s : ByteArray) (w : World) (hs : s.size ≤ maxLen) (h : WD w q p X S F) (hX : X.Ok) (hS : S.Small) :
    Calls Tryz.prog 257 #[.pointer (some ⟨q, 0, none⟩), .string s] w fun e w' =>
      e = .returned (.int .i64 (wcall X S true (S.create s.data.toList)).2.2) ∧ WD w' q p (wcall X S true (S.create s.data.toList)).1 (wcall X S true (S.create s.data.toList)).2.1 (grow F w w') ∧ Touch F w w' := by
  obtain ⟨FW, FD, hA, hF⟩ := h
  have HA := Lib.hid hA
  have HFF := Lib.hid hF
  have HK := Lib.hid (struck_any q _ X FW true w hA.wn hX)
  have HSM := Lib.hid hS
  clear hA hX hS
  by_cases he : (X.struck true).2.1 = 0
  · have hr : wcall X S true (S.create s.data.toList) = ((X.struck true).1, (S.create s.data.toList).1, (S.create s.data.toList).2) := by unfold wcall; rw [if_pos he]
    have HR := Lib.hid hr; clear hr
    rw [HR.out]
    have HE := Lib.hid he; clear he
    go_enter Tryz.func257, Tryz.ntmps257
    go_wp2_with (first
      | (go_at_call 64; refine HK.out.mono ?_; rintro e w1 ⟨rfl, hw1, ht1⟩; rw [HE.out]; have q0 : w1.cell? ⟨q, 0, none⟩ = some (.pointer (some ⟨p, 0, none⟩)) := head_cell hw1; have HW1 := Lib.hid hw1; have HT1 := Lib.hid ht1; have HA1 : Hid (Apart w1 q p _ S FW FD) := Lib.hid (HA.out.wound hw1 ht1); clear hw1 ht1)
      | (go_at_call 264; refine (create_any p S FD s w1 hs HA1.out.dr HSM.out).mono ?_; rintro e w2 ⟨rfl, hd2, ht2⟩; have HD2 := Lib.hid hd2; have HT2 := Lib.hid ht2; clear hd2 ht2))
    go_ret
    exact ⟨rfl, both_steps HA.out HFF.out HW1.out HT1.out HD2.out HT2.out⟩
  · obtain ⟨z, hz⟩ : ∃ z, z = (X.struck true).2.1 := ⟨_, rfl⟩
    have hr : wcall X S true (S.create s.data.toList) = ((X.struck true).1, S, z) := by unfold wcall; rw [if_neg he, hz]
    have HR := Lib.hid hr; clear hr
    rw [HR.out]
    have HZ := Lib.hid hz
    have hne : (z != 0) = true := by rw [hz]; simpa using he
    clear he hz
    go_enter Tryz.func257, Tryz.ntmps257
    go_wp2_with (go_at_call 64; refine HK.out.mono ?_; rintro e w1 ⟨rfl, hw1, ht1⟩; rw [← HZ.out]; have HW1 := Lib.hid hw1; have HT1 := Lib.hid ht1; clear hw1 ht1)
    go_ret
    exact ⟨rfl, wound_step HA.out HFF.out HW1.out HT1.out⟩
theorem wsync_any (q p : Nat) (X : Wnd) (S : Drv) (F : Nat → Prop) (s : ByteArray) (w : World) (hs : s.size ≤ maxLen) (h : WD w q p X S F) (hX : X.Ok) (hS : S.Small) :
    Calls Tryz.prog 261 #[.pointer (some ⟨q, 0, none⟩), .string s] w fun e w' =>
      e = .returned (.int .i64 (wcall X S false (S.sync s.data.toList)).2.2) ∧ WD w' q p (wcall X S false (S.sync s.data.toList)).1 (wcall X S false (S.sync s.data.toList)).2.1 (grow F w w') ∧ Touch F w w' := by
  obtain ⟨FW, FD, hA, hF⟩ := h
  have HA := Lib.hid hA
  have HFF := Lib.hid hF
  have HK := Lib.hid (struck_any q _ X FW false w hA.wn hX)
  have HSM := Lib.hid hS
  clear hA hX hS
  by_cases he : (X.struck false).2.1 = 0
  · have hr : wcall X S false (S.sync s.data.toList) = ((X.struck false).1, (S.sync s.data.toList).1, (S.sync s.data.toList).2) := by unfold wcall; rw [if_pos he]
    have HR := Lib.hid hr; clear hr
    rw [HR.out]
    have HE := Lib.hid he; clear he
    go_enter Tryz.func261, Tryz.ntmps261
    go_wp2_with (first
      | (go_at_call 64; refine HK.out.mono ?_; rintro e w1 ⟨rfl, hw1, ht1⟩; rw [HE.out]; have q0 : w1.cell? ⟨q, 0, none⟩ = some (.pointer (some ⟨p, 0, none⟩)) := head_cell hw1; have HW1 := Lib.hid hw1; have HT1 := Lib.hid ht1; have HA1 : Hid (Apart w1 q p _ S FW FD) := Lib.hid (HA.out.wound hw1 ht1); clear hw1 ht1)
      | (go_at_call 268; refine (sync_any p S FD s w1 hs HA1.out.dr HSM.out).mono ?_; rintro e w2 ⟨rfl, hd2, ht2⟩; have HD2 := Lib.hid hd2; have HT2 := Lib.hid ht2; clear hd2 ht2))
    go_ret
    exact ⟨rfl, both_steps HA.out HFF.out HW1.out HT1.out HD2.out HT2.out⟩
  · obtain ⟨z, hz⟩ : ∃ z, z = (X.struck false).2.1 := ⟨_, rfl⟩
    have hr : wcall X S false (S.sync s.data.toList) = ((X.struck false).1, S, z) := by unfold wcall; rw [if_neg he, hz]
    have HR := Lib.hid hr; clear hr
    rw [HR.out]
    have HZ := Lib.hid hz
    have hne : (z != 0) = true := by rw [hz]; simpa using he
    clear he hz
    go_enter Tryz.func261, Tryz.ntmps261
    go_wp2_with (go_at_call 64; refine HK.out.mono ?_; rintro e w1 ⟨rfl, hw1, ht1⟩; rw [← HZ.out]; have HW1 := Lib.hid hw1; have HT1 := Lib.hid ht1; clear hw1 ht1)
    go_ret
    exact ⟨rfl, wound_step HA.out HFF.out HW1.out HT1.out⟩
theorem wrename_any (q p : Nat) (X : Wnd) (S : Drv) (F : Nat → Prop) (s t : ByteArray) (w : World) (hs : s.size ≤ maxLen) (ht : t.size ≤ maxLen) (h : WD w q p X S F) (hX : X.Ok) (hS : S.Small) :
    Calls Tryz.prog 260 #[.pointer (some ⟨q, 0, none⟩), .string s, .string t] w fun e w' =>
      e = .returned (.int .i64 (wcall X S false (S.rename s.data.toList t.data.toList)).2.2) ∧ WD w' q p (wcall X S false (S.rename s.data.toList t.data.toList)).1 (wcall X S false (S.rename s.data.toList t.data.toList)).2.1 (grow F w w') ∧ Touch F w w' := by
  obtain ⟨FW, FD, hA, hF⟩ := h
  have HA := Lib.hid hA
  have HFF := Lib.hid hF
  have HK := Lib.hid (struck_any q _ X FW false w hA.wn hX)
  have HSM := Lib.hid hS
  clear hA hX hS
  by_cases he : (X.struck false).2.1 = 0
  · have hr : wcall X S false (S.rename s.data.toList t.data.toList) = ((X.struck false).1, (S.rename s.data.toList t.data.toList).1, (S.rename s.data.toList t.data.toList).2) := by unfold wcall; rw [if_pos he]
    have HR := Lib.hid hr; clear hr
    rw [HR.out]
    have HE := Lib.hid he; clear he
    go_enter Tryz.func260, Tryz.ntmps260
    go_wp2_with (first
      | (go_at_call 64; refine HK.out.mono ?_; rintro e w1 ⟨rfl, hw1, ht1⟩; rw [HE.out]; have q0 : w1.cell? ⟨q, 0, none⟩ = some (.pointer (some ⟨p, 0, none⟩)) := head_cell hw1; have HW1 := Lib.hid hw1; have HT1 := Lib.hid ht1; have HA1 : Hid (Apart w1 q p _ S FW FD) := Lib.hid (HA.out.wound hw1 ht1); clear hw1 ht1)
      | (go_at_call 267; refine (rename_any p S FD s t w1 hs ht HA1.out.dr HSM.out).mono ?_; rintro e w2 ⟨rfl, hd2, ht2⟩; have HD2 := Lib.hid hd2; have HT2 := Lib.hid ht2; clear hd2 ht2))
    go_ret
    exact ⟨rfl, both_steps HA.out HFF.out HW1.out HT1.out HD2.out HT2.out⟩
  · obtain ⟨z, hz⟩ : ∃ z, z = (X.struck false).2.1 := ⟨_, rfl⟩
    have hr : wcall X S false (S.rename s.data.toList t.data.toList) = ((X.struck false).1, S, z) := by unfold wcall; rw [if_neg he, hz]
    have HR := Lib.hid hr; clear hr
    rw [HR.out]
    have HZ := Lib.hid hz
    have hne : (z != 0) = true := by rw [hz]; simpa using he
    clear he hz
    go_enter Tryz.func260, Tryz.ntmps260
    go_wp2_with (go_at_call 64; refine HK.out.mono ?_; rintro e w1 ⟨rfl, hw1, ht1⟩; rw [← HZ.out]; have HW1 := Lib.hid hw1; have HT1 := Lib.hid ht1; clear hw1 ht1)
    go_ret
    exact ⟨rfl, wound_step HA.out HFF.out HW1.out HT1.out⟩
theorem wsyncDir_any (q p : Nat) (X : Wnd) (S : Drv) (F : Nat → Prop)  (w : World)  (h : WD w q p X S F) (hX : X.Ok) (hS : S.Small) :
    Calls Tryz.prog 262 #[.pointer (some ⟨q, 0, none⟩)] w fun e w' =>
      e = .returned (.int .i64 (wcall X S false ((S.syncDir, 0))).2.2) ∧ WD w' q p (wcall X S false ((S.syncDir, 0))).1 (wcall X S false ((S.syncDir, 0))).2.1 (grow F w w') ∧ Touch F w w' := by
  obtain ⟨FW, FD, hA, hF⟩ := h
  have HA := Lib.hid hA
  have HFF := Lib.hid hF
  have HK := Lib.hid (struck_any q _ X FW false w hA.wn hX)
  have HSM := Lib.hid hS
  clear hA hX hS
  by_cases he : (X.struck false).2.1 = 0
  · have hr : wcall X S false ((S.syncDir, 0)) = ((X.struck false).1, ((S.syncDir, 0)).1, ((S.syncDir, 0)).2) := by unfold wcall; rw [if_pos he]
    have HR := Lib.hid hr; clear hr
    rw [HR.out]
    have HE := Lib.hid he; clear he
    go_enter Tryz.func262, Tryz.ntmps262
    go_wp2_with (first
      | (go_at_call 64; refine HK.out.mono ?_; rintro e w1 ⟨rfl, hw1, ht1⟩; rw [HE.out]; have q0 : w1.cell? ⟨q, 0, none⟩ = some (.pointer (some ⟨p, 0, none⟩)) := head_cell hw1; have HW1 := Lib.hid hw1; have HT1 := Lib.hid ht1; have HA1 : Hid (Apart w1 q p _ S FW FD) := Lib.hid (HA.out.wound hw1 ht1); clear hw1 ht1)
      | (go_at_call 269; refine (syncDir_any p S FD w1 HA1.out.dr).mono ?_; rintro e w2 ⟨rfl, hd2, ht2⟩; have HD2 := Lib.hid hd2; have HT2 := Lib.hid ht2; clear hd2 ht2))
    go_ret
    exact ⟨rfl, both_steps HA.out HFF.out HW1.out HT1.out HD2.out HT2.out⟩
  · obtain ⟨z, hz⟩ : ∃ z, z = (X.struck false).2.1 := ⟨_, rfl⟩
    have hr : wcall X S false ((S.syncDir, 0)) = ((X.struck false).1, S, z) := by unfold wcall; rw [if_neg he, hz]
    have HR := Lib.hid hr; clear hr
    rw [HR.out]
    have HZ := Lib.hid hz
    have hne : (z != 0) = true := by rw [hz]; simpa using he
    clear he hz
    go_enter Tryz.func262, Tryz.ntmps262
    go_wp2_with (go_at_call 64; refine HK.out.mono ?_; rintro e w1 ⟨rfl, hw1, ht1⟩; rw [← HZ.out]; have HW1 := Lib.hid hw1; have HT1 := Lib.hid ht1; clear hw1 ht1)
    go_ret
    exact ⟨rfl, wound_step HA.out HFF.out HW1.out HT1.out⟩
end Go.Proofs.YtcbebefdbdppdaaGreat
namespace Go.Proofs.YtcbebefdbdppdaaGreat
open Go.RowKit Go.Maps
theorem Reads.touch {w w' : World} {B size n : Nat} {A : Option Addr} {xs : List Value} {G : Nat → Prop} (h : Reads w B size A n xs) (ht : Touch G w w') (hB : B ≤ w.heap.size) (hA : ∀ ad, A = some ad → ¬G ad.block) : Reads w' B size A n xs := by
  refine ⟨h.1, fun hn => ?_⟩
  obtain ⟨ad, e, hb, hc⟩ := h.2 hn
  refine ⟨ad, e, hb, fun j u hu => ?_⟩
  rw [← hc j u hu]
  exact World.cell?_of_block (ht.block _ (by rw [block_of_add]; omega) (by rw [block_of_add]; exact hA ad e))
theorem struck_part {X : Wnd} {may : Bool} (h : 0 < (X.struck may).2.2) : (X.struck may).2.1 ≠ 0 := by
  unfold Wnd.struck at h ⊢
  split
  · simp
  · split
    · simp
    · split
      · simp
      · rename_i h1 h2 h3
        rw [if_neg h1, if_neg h2, if_neg h3] at h
        simp at h
def wappend (X : Wnd) (S : Drv) (s : Nm) (bs : List UInt8) : Wnd × Drv × Int :=
  if (X.struck true).2.1 = 0 then ((X.struck true).1, (S.append s bs).1, (S.append s bs).2)
  else if 0 < (X.struck true).2.2 ∧ bs ≠ [] then ((X.struck true).1, (S.append s (bs.take (X.struck true).2.2.toNat)).1, (X.struck true).2.1)
  else ((X.struck true).1, S, (X.struck true).2.1)
set_option maxHeartbeats 1000000 in
theorem wappend_any (q p : Nat) (X : Wnd) (S : Drv) (F : Nat → Prop) (s : ByteArray) (w : World) (hs : s.size ≤ maxLen) (A : Option Addr) (c : Nat) (bs : List UInt8)
    (hr : Reads w w.heap.size 1 A bs.length (bs.map B8)) (hA : ∀ ad, A = some ad → ¬F ad.block) (hc : bs.length ≤ c) (hb : bs.length ≤ 140737488351232) (h : WD w q p X S F) (hX : X.Ok) (hS : S.Small) :
    Calls Tryz.prog 256 #[.pointer (some ⟨q, 0, none⟩), .string s, .slice A bs.length c] w fun e w' =>
      e = .returned (.int .i64 (wappend X S s.data.toList bs).2.2) ∧ WD w' q p (wappend X S s.data.toList bs).1 (wappend X S s.data.toList bs).2.1 (grow F w w') ∧ Touch F w w' := by
  obtain ⟨FW, FD, hAp, hF⟩ := h
  have HA := Lib.hid hAp
  have HFF := Lib.hid hF
  have HK := Lib.hid (struck_any q _ X FW true w hAp.wn hX)
  have HSM := Lib.hid hS
  have HRD := Lib.hid hr
  have HNA := Lib.hid hA
  clear hAp hX hS hr hA
  obtain ⟨m, hm⟩ : ∃ m, m = bs.length := ⟨_, rfl⟩
  obtain ⟨z, hz⟩ : ∃ z, z = (X.struck true).2.2 := ⟨_, rfl⟩
  have HZ := Lib.hid hz
  have HM := Lib.hid hm
  by_cases he : (X.struck true).2.1 = 0
  · have hr : wappend X S s.data.toList bs = ((X.struck true).1, (S.append s.data.toList bs).1, (S.append s.data.toList bs).2) := by unfold wappend; rw [if_pos he]
    have HR := Lib.hid hr; clear hr
    have hzn : z ≤ 0 := by
      rcases Int.lt_or_le 0 z with h | h
      · exact absurd he (struck_part (by rw [← hz]; exact h))
      · exact h
    rw [HR.out, ← hm]
    have HE := Lib.hid he; clear he
    rw [← hm] at hc hb
    clear hm hz
    go_enter Tryz.func256, Tryz.ntmps256
    go_wp2_with (first
      | (go_at_call 64; refine HK.out.mono ?_; rintro e w1 ⟨rfl, hw1, ht1⟩; rw [HE.out, ← HZ.out]; have q0 : w1.cell? ⟨q, 0, none⟩ = some (.pointer (some ⟨p, 0, none⟩)) := head_cell hw1; have HW1 := Lib.hid hw1; have HT1 := Lib.hid ht1; have HA1 : Hid (Apart w1 q p _ S FW FD) := Lib.hid (HA.out.wound hw1 ht1); clear hw1 ht1)
      | (go_at_call 263; rw [HM.out]; refine (append_any p S FD s w1 hs HA1.out.dr HSM.out A c bs ((HRD.out.touch HT1.out (Nat.le_refl _) (fun ad e hf => HNA.out ad e (HFF.out _ (.inl hf)))).more HT1.out.size) (by rw [← HM.out]; exact hb)).mono ?_; rintro e w2 ⟨rfl, hd2, ht2⟩; have HD2 := Lib.hid hd2; have HT2 := Lib.hid ht2; clear hd2 ht2))
    go_ret
    exact ⟨rfl, both_steps HA.out HFF.out HW1.out HT1.out HD2.out HT2.out⟩
  · obtain ⟨x, hx⟩ : ∃ x, x = (X.struck true).2.1 := ⟨_, rfl⟩
    have HXE := Lib.hid hx
    have hne : (x != 0) = true := by rw [hx]; simpa using he
    by_cases hp : 0 < (X.struck true).2.2 ∧ bs ≠ []
    · obtain ⟨n, hn⟩ : ∃ n, n = (min z (m : Int)).toNat := ⟨_, rfl⟩
      have hz0 : 0 < z := by rw [hz]; exact hp.1
      have hm0 : 0 < m := by rw [hm]; exact List.length_pos_iff.2 hp.2
      have hnm : n ≤ m := by omega
      have hmin : min z (m : Int) = (n : Int) := by omega
      have htk : bs.take n = bs.take z.toNat := by
        rcases Nat.le_total m z.toNat with h | h
        · rw [List.take_of_length_le (by omega), List.take_of_length_le (by omega)]
        · have : n = z.toNat := by omega
          rw [this]
      have hr : wappend X S s.data.toList bs = ((X.struck true).1, (S.append s.data.toList (bs.take n)).1, x) := by unfold wappend; rw [if_neg he, if_pos hp, ← hz, htk, hx]
      have HR := Lib.hid hr; clear hr
      rw [HR.out, ← hm]
      rw [← hm] at hc hb
      have hlt : (bs.take n).length = n := by rw [List.length_take, ← hm]; omega
      have HLT := Lib.hid hlt
      have hnc : n ≤ c := by omega
      have hrn : Reads w w.heap.size 1 A n ((bs.take n).map B8) := by
        have := (HRD.out.cutTo (m := n) (by rw [← hm]; exact hnm))
        rwa [← List.map_take] at this
      have HRN := Lib.hid hrn
      clear hm hz hx he hp htk hlt hrn hn
      go_enter Tryz.func256, Tryz.ntmps256
      go_wp2_with (go_at_call 64; refine HK.out.mono ?_; rintro e w1 ⟨rfl, hw1, ht1⟩; rw [← HXE.out, ← HZ.out]; have q0 : w1.cell? ⟨q, 0, none⟩ = some (.pointer (some ⟨p, 0, none⟩)) := head_cell hw1; have HW1 := Lib.hid hw1; have HT1 := Lib.hid ht1; have HA1 : Hid (Apart w1 q p _ S FW FD) := Lib.hid (HA.out.wound hw1 ht1); clear hw1 ht1)
      have HAP := Lib.hid (append_any p S FD s w1.drew hs (HA1.out.dr.keep (Touch.drewN (F := fun _ => False) w1 1) (fun _ _ h => h)) HSM.out A c (bs.take n) (by rw [HLT.out]; exact ((HRN.out.touch HT1.out (Nat.le_refl _) (fun ad e hf => HNA.out ad e (HFF.out _ (.inl hf)))).more HT1.out.size)) (by rw [HLT.out]; omega))
      rw [HLT.out] at HAP
      go_region_with (go_at_call 263; (refine HAP.out.mono ?_); rintro e w2 ⟨rfl, hd2, ht2⟩; have HD2 := Lib.hid hd2; have HT2 := Lib.hid ht2; clear hd2 ht2)
      all_goals (
        go_wp2
        go_ret
        exact ⟨rfl, both_steps HA.out HFF.out (HW1.out.keep (Touch.drewN (F := fun _ => False) w1 1) (fun _ _ h => h)) (HT1.out.trans (Touch.drewN w1 1)) HD2.out HT2.out⟩)
    · have hr : wappend X S s.data.toList bs = ((X.struck true).1, S, x) := by unfold wappend; rw [if_neg he, if_neg hp, hx]
      have HR := Lib.hid hr; clear hr
      rw [HR.out, ← hm]
      rw [← hm] at hc hb
      by_cases hz0 : z ≤ 0
      · clear hm hz hx he hp
        go_enter Tryz.func256, Tryz.ntmps256
        go_wp2_with (go_at_call 64; refine HK.out.mono ?_; rintro e w1 ⟨rfl, hw1, ht1⟩; rw [← HXE.out, ← HZ.out]; have HW1 := Lib.hid hw1; have HT1 := Lib.hid ht1; clear hw1 ht1)
        go_ret
        exact ⟨rfl, wound_step HA.out HFF.out HW1.out HT1.out⟩
      · have hm0 : m = 0 := by
          rcases Nat.eq_zero_or_pos m with h | h
          · exact h
          · exact absurd ⟨by rw [← hz]; omega, by rintro rfl; rw [hm] at h; simp at h⟩ hp
        subst hm0
        have hz1 : 0 < z := by omega
        clear hm hz hx he hp hz0
        go_enter Tryz.func256, Tryz.ntmps256
        go_wp2_with (go_at_call 64; refine HK.out.mono ?_; rintro e w1 ⟨rfl, hw1, ht1⟩; rw [← HXE.out, ← HZ.out]; have HW1 := Lib.hid hw1; have HT1 := Lib.hid ht1; clear hw1 ht1)
        go_ret
        exact ⟨rfl, wound_step HA.out HFF.out HW1.out HT1.out⟩
end Go.Proofs.YtcbebefdbdppdaaGreat
