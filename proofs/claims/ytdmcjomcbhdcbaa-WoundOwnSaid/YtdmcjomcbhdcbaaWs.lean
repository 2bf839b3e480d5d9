/- The contract of a wound's 'struck'. -/
import Derived.Test.YtdmcjomcbhdcbaaWm
namespace Go.Proofs.Ytdmcjomcbhdcbaa
open Go.RowKit Go.Maps

theorem plan_get (l : List (Int × Int)) : ∀ (k : Nat) (f : Int × Int), l[k]? = some f → (planCells l)[k * 2]? = some (.int .i64 f.1) ∧ (planCells l)[k * 2 + 1]? = some (.int .i64 f.2) := by
  induction l with
  | nil => intro k f h; simp at h
  | cons x r ih =>
    intro k f h
    cases k with
    | zero => simp at h; subst h; exact ⟨rfl, rfl⟩
    | succ k =>
      have := ih k f (by simpa using h)
      have e : (k + 1) * 2 = k * 2 + 2 := by omega
      rw [e]
      exact this

theorem WndAt.turn {w : World} {q : Nat} {dv : Value} {X : Wnd} {pv : Value} {fq : Option Nat} (h : WndAt w q dv X pv fq) (i : Nat) (v : Value) (Y : Wnd) (hp : Y.plan = X.plan) (hf : Y.fuse = X.fuse)
    (hc : (#[dv, .bool X.down, .bool X.away, pv, .int .i64 X.calls, .int .i64 X.round, fuseV fq] : Array Value).setIfInBounds i v = #[dv, .bool Y.down, .bool Y.away, pv, .int .i64 Y.calls, .int .i64 Y.round, fuseV fq]) :
    WndAt (w.setCell ⟨q, i, none⟩ v) q dv Y pv fq where
  head := by rw [← hc]; exact h.head.set_ i v
  plan := by
    rw [hp]
    refine ownsRow_keep h.plan fun k e => Below.heap_setCell _ _ _ _ ?_
    rintro rfl
    exact own_blk_ne h.plan h.head (by decide) e
  none_ := fun e => by rw [hf]; exact h.none_ e
  some_ := fun b e => by
    obtain ⟨f, e1, hb⟩ := h.some_ b e
    exact ⟨f, by rw [hf]; exact e1, hb.far (hb.ne_ h.head (by decide)) _⟩
theorem WndAt.count {w : World} {q : Nat} {dv : Value} {X : Wnd} {pv : Value} {fq : Option Nat} (h : WndAt w q dv X pv fq) :
    WndAt ((w.setCell ⟨q, 4, none⟩ (.int .i64 (X.calls + 1))).setCell ⟨q, 5, none⟩ (.int .i64 (X.round + 1))) q dv X.count pv fq :=
  (h.turn 4 (.int .i64 (X.calls + 1)) { X with calls := X.calls + 1 } rfl rfl rfl).turn 5 (.int .i64 (X.round + 1)) X.count rfl rfl rfl

set_option maxRecDepth 100000 in
set_option maxHeartbeats 1000000 in
theorem struck_any (q : Nat) (dv : Value) (X : Wnd) (F : Nat → Prop) (may : Bool) (w : World) (h : Wn w q dv X F) (hok : X.Ok) :
    Calls Try.prog 50 #[.pointer (some ⟨q, 0, none⟩), .bool may] w fun e w' =>
      e = .returned (.tuple #[.int .i64 (X.struck may).2.1, .int .i64 (X.struck may).2.2]) ∧ Wn w' q dv (X.struck may).1 F ∧ Touch F w w' := by
  have HW := Lib.hid h
  obtain ⟨pv, fq, hA, hF⟩ := h
  have h1 : w.cell? ⟨q, 1, none⟩ = some (.bool X.down) := hA.head.cell 1
  by_cases hd : X.down = true
  · have HS : Hid (X.struck may = (X, 122, -1)) := by unfold Wnd.struck; rw [if_pos hd]; exact rfl
    rw [HS.out]
    rw [hd] at h1
    clear hA hd
    go_enter Try.func50, Try.ntmps50
    go_wp2
    go_ret2
    exact ⟨rfl, HW.out, Touch.refl _ _⟩
  have hd' : X.down = false := by simpa using hd
  rw [hd'] at h1
  have h2 : w.cell? ⟨q, 2, none⟩ = some (.bool X.away) := hA.head.cell 2
  by_cases ha : X.away = true
  · have HS : Hid (X.struck may = (X, 121, -1)) := by unfold Wnd.struck; rw [if_neg hd, if_pos ha]; exact rfl
    rw [HS.out]
    rw [ha] at h2
    clear hA hd ha hd'
    go_enter Try.func50, Try.ntmps50
    go_wp2
    go_ret2
    exact ⟨rfl, HW.out, Touch.refl _ _⟩
  have ha' : X.away = false := by simpa using ha
  rw [ha'] at h2
  have h4 : w.cell? ⟨q, 4, none⟩ = some (.int .i64 X.calls) := hA.head.cell 4
  have h5 : w.cell? ⟨q, 5, none⟩ = some (.int .i64 X.round) := hA.head.cell 5
  have hcb := hok.calls
  have hrb := hok.round
  have hpb := hok.plan
  have HA := Lib.hid hA
  have HFF := Lib.hid hF
  have HND := Lib.hid hd
  have HNA := Lib.hid ha
  by_cases hh : X.hits = true
  · obtain ⟨Y, hY⟩ : ∃ Y : Wnd, Y = { X.count with down := true } := ⟨_, rfl⟩
    have HY := Lib.hid hY
    have HS : Hid (X.struck may = (Y, 122, X.inside)) := by rw [hY]; unfold Wnd.struck; rw [if_neg hd, if_neg ha, if_pos hh]; exact rfl
    rw [HS.out]
    cases fq with
    | none => exfalso; unfold Wnd.hits at hh; rw [hA.none_ rfl] at hh; cases hh
    | some b =>
    obtain ⟨f, hf, _⟩ := hA.some_ b rfl
    have hlit : X.count.lit = true := by
      unfold Wnd.hits at hh; unfold Wnd.lit; rw [hf] at hh; show (match X.fuse with | some f => f.round == 0 | none => false) = true; rw [hf]; simp at hh ⊢; exact hh.1
    have hcall : (f.call == X.round) = true := by unfold Wnd.hits at hh; rw [hf] at hh; simp at hh ⊢; exact hh.2
    have hins : X.inside = max 0 f.inside := by unfold Wnd.inside; rw [hf]
    have HF1 := Lib.hid hf
    have HLIT := Lib.hid hlit
    have HINS := Lib.hid hins
    clear hA hd ha hd' ha' hh hf hok hF hlit hins hY
    go_enter Try.func50, Try.ntmps50
    go_wp2
    go_quiet (fail)
    refine exit_world fun X1 hX => ?_
    have HA1 : Hid (WndAt X1 q dv X pv (some b)) := by rw [hX]; exact HA.out.keep fun _ _ => rfl
    have HT1 : Hid (Touch F w X1) := by rw [hX]; exact Touch.drewN _ _
    have y4 : X1.cell? ⟨q, 4, none⟩ = some (.int .i64 X.calls) := HA1.out.head.cell 4
    have y5 : X1.cell? ⟨q, 5, none⟩ = some (.int .i64 X.round) := HA1.out.head.cell 5
    have y4f : X1.frozen? ⟨q, 4, none⟩ = false := HA1.out.head.frozen 4
    have y5f : X1.frozen? ⟨q, 5, none⟩ = false := HA1.out.head.frozen 5
    have HC := Lib.hid HA1.out.count
    have hqF : F q := HFF.out q (.inl rfl)
    have HT3 : Hid (Touch F w ((X1.setCell ⟨q, 4, none⟩ (.int .i64 (X.calls + 1))).setCell ⟨q, 5, none⟩ (.int .i64 (X.round + 1)))) := (HT1.out.trans (Touch.setCell _ ⟨q, 4, none⟩ _ (Or.inl hqF))).trans (Touch.setCell _ ⟨q, 5, none⟩ _ (Or.inl hqF))
    clear hX h1 h2 h4 h5
    go_wp2_with (go_at_call 28; refine (lit_any q dv X.count pv (some b) _ HC.out).mono ?_; rintro e w2 ⟨rfl, hw2⟩; have HC2 : Hid (WndAt w2 q dv X.count pv (some b)) := hw2 ▸ HC; have HT2 : Hid (Touch F w w2) := hw2 ▸ HT3; clear hw2; rw [HLIT.out]; have z6 : w2.cell? ⟨q, 6, none⟩ = some (.pointer (some ⟨b, 0, none⟩)) := HC2.out.head.cell 6; obtain ⟨f2, hf2, hb2⟩ := HC2.out.some_ b rfl; have hff : f2 = f := Option.some.inj ((show X.fuse = some f2 from hf2).symm.trans HF1.out); rw [hff] at hb2; clear hff hf2; have zb1 : w2.cell? ⟨b, 1, none⟩ = some (.int .i64 f.call) := hb2.cell 1; have zb2 : w2.cell? ⟨b, 2, none⟩ = some (.int .i64 f.inside) := hb2.cell 2; have hbq : b ≠ q := hb2.ne_ HC2.out.head (by decide); have z1f : w2.frozen? ⟨q, 1, none⟩ = false := HC2.out.head.frozen 1; have z1 : w2.cell? ⟨q, 1, none⟩ = some (.bool X.down) := HC2.out.head.cell 1; clear hb2)

    go_region
    all_goals go_wp2
    all_goals (
      go_ret2
      refine ⟨by rw [HINS.out]; exact rfl, ⟨pv, some b, (HC2.out.turn 1 (.bool true) Y (by rw [HY.out]) (by rw [HY.out]) (by rw [HY.out]; rfl)).keep fun _ _ => rfl, fun k hk => HFF.out k hk⟩, ?_⟩
      exact (HT2.out.trans (Touch.setCell _ ⟨q, 1, none⟩ _ (Or.inl hqF))).trans (Touch.drewN _ 1))
  · have hh' : X.hits = false := by simpa using hh
    obtain ⟨z, hz⟩ : ∃ z, z = Wnd.scan may X.calls X.plan := ⟨_, rfl⟩
    have HS : Hid (X.struck may = (X.count, z, -1)) := by rw [hz]; unfold Wnd.struck; rw [if_neg hd, if_neg ha, if_neg hh]; exact rfl
    rw [HS.out]
    have HZ := Lib.hid hz
    obtain ⟨pa, pc, hpv, _⟩ := own_shape hA.plan
    obtain ⟨len, hlen⟩ : ∃ len, len = X.plan.length := ⟨_, rfl⟩
    have HLEN := Lib.hid hlen
    rw [← hlen] at hpb hpv
    subst hpv
    by_cases hl : X.lit = true
    · cases fq with
      | none => exfalso; unfold Wnd.lit at hl; rw [hA.none_ rfl] at hl; cases hl
      | some b =>
      obtain ⟨f, hf, _⟩ := hA.some_ b rfl
      have hlit : X.count.lit = true := hl
      have hcall : (f.call == X.round) = false := by
        unfold Wnd.lit at hl; rw [hf] at hl
        have hl2 : (f.round == 0) = true := hl
        unfold Wnd.hits at hh'; rw [hf] at hh'
        have hh2 : (f.round == 0 && f.call == X.round) = false := hh'
        rw [hl2, Bool.true_and] at hh2; exact hh2
      have HF1 := Lib.hid hf
      have HLIT := Lib.hid hlit
      clear hA hd ha hd' ha' hh hh' hf hok hF hlit hl hz hlen
      go_enter Try.func50, Try.ntmps50
      go_wp2
      go_quiet (fail)
      refine exit_world fun X1 hX => ?_
      have HA1 : Hid (WndAt X1 q dv X (.slice pa len pc) (some b)) := by rw [hX]; exact HA.out.keep fun _ _ => rfl
      have HT1 : Hid (Touch F w X1) := by rw [hX]; exact Touch.drewN _ _
      have y4 : X1.cell? ⟨q, 4, none⟩ = some (.int .i64 X.calls) := HA1.out.head.cell 4
      have y5 : X1.cell? ⟨q, 5, none⟩ = some (.int .i64 X.round) := HA1.out.head.cell 5
      have y4f : X1.frozen? ⟨q, 4, none⟩ = false := HA1.out.head.frozen 4
      have y5f : X1.frozen? ⟨q, 5, none⟩ = false := HA1.out.head.frozen 5
      have HC := Lib.hid HA1.out.count
      have hqF : F q := HFF.out q (.inl rfl)
      have HT3 : Hid (Touch F w ((X1.setCell ⟨q, 4, none⟩ (.int .i64 (X.calls + 1))).setCell ⟨q, 5, none⟩ (.int .i64 (X.round + 1)))) := (HT1.out.trans (Touch.setCell _ ⟨q, 4, none⟩ _ (Or.inl hqF))).trans (Touch.setCell _ ⟨q, 5, none⟩ _ (Or.inl hqF))
      clear hX h1 h2 h4 h5
      go_wp2_with (go_at_call 28; refine (lit_any q dv X.count (.slice pa len pc) (some b) _ HC.out).mono ?_; rintro e w2 ⟨rfl, hw2⟩; have HC2 : Hid (WndAt w2 q dv X.count (.slice pa len pc) (some b)) := hw2 ▸ HC; have HT2 : Hid (Touch F w w2) := hw2 ▸ HT3; clear hw2; rw [HLIT.out]; have z6 : w2.cell? ⟨q, 6, none⟩ = some (.pointer (some ⟨b, 0, none⟩)) := HC2.out.head.cell 6; obtain ⟨f2, hf2, hb2⟩ := HC2.out.some_ b rfl; have hff : f2 = f := Option.some.inj ((show X.fuse = some f2 from hf2).symm.trans HF1.out); rw [hff] at hb2; clear hff hf2; have zb1 : w2.cell? ⟨b, 1, none⟩ = some (.int .i64 f.call) := hb2.cell 1; clear hb2; have z3 : w2.cell? ⟨q, 3, none⟩ = some (.slice pa len pc) := HC2.out.head.cell 3)
      go_loopw [74] (fun s wr => ∃ k : Nat, k ≤ len ∧ s = .int .i64 k ∧ Wnd.scan may X.calls (X.plan.drop k) = z ∧ Below w2.heap.size w2 wr) (fun s _ => len - (intOf s).toNat)
      case atStart => exact ⟨0, Nat.zero_le _, rfl, by rw [HZ.out]; rfl, Below.refl _ _⟩
      case round =>
        obtain ⟨k, hk, rfl, hsc, hbk⟩ := hrel
        have HSC := Lib.hid hsc
        have HBK := Lib.hid hbk
        have HFIN : Hid (Wn wr q dv X.count F ∧ Touch F w wr) := by
          have t : Touch F w wr := HT2.out.trans (Touch.of_below hbk)
          exact ⟨⟨_, _, HC2.out.keep fun q' hq' => hbk.block q' (HC2.out.foot_lt hq'), HFF.out⟩, t⟩
        clear hsc
        by_cases hlt : k < len
        · obtain ⟨f, hfk⟩ : ∃ f, X.plan[k]? = some f := ⟨_, List.getElem?_eq_getElem (by rw [← HLEN.out]; exact hlt)⟩
          obtain ⟨c1, c2⟩ := plan_get _ _ _ hfk
          have hpl := HC2.out.plan
          have hlen' : X.count.plan.length = len := HLEN.out.symm
          rw [hlen'] at hpl
          obtain ⟨g, cap, hv, _, hglt⟩ := hpl.form (by omega)
          have hpa : pa = some ⟨g, 0, none⟩ := by injection hv
          subst hpa
          have x1 : wr.cell? ⟨g, k * 2, none⟩ = some (.int .i64 f.1) := by
            have := hpl.cells (g := g) rfl (k * 2) _ c1
            rw [hbk.cell (p := ⟨g, k * 2, none⟩) hglt]; simpa [add_plain] using this
          have x2 : wr.cell? ⟨g, k * 2 + 1, none⟩ = some (.int .i64 f.2) := by
            have := hpl.cells (g := g) rfl (k * 2 + 1) _ c2
            rw [hbk.cell (p := ⟨g, k * 2 + 1, none⟩) hglt]; simpa [add_plain] using this
          have hdr : X.plan.drop k = f :: X.plan.drop (k + 1) := by
            rw [List.drop_eq_getElem_cons (by rw [← HLEN.out]; exact hlt)]
            congr 1
            rw [List.getElem?_eq_getElem (by rw [← HLEN.out]; exact hlt)] at hfk
            injection hfk
          have hsz := HBK.out.size
          clear c1 c2 hpl hv hbk hfk hlen'
          by_cases e1 : f.1 = X.calls
          · have b1 : (f.1 != X.calls) = false := by simp [e1]
            have hz1 : z = if f.2 = 1 then 120 else if f.2 = 2 ∧ may = true then 111 else 0 := by
              have := HSC.out; rw [hdr] at this; unfold Wnd.scan at this; rw [if_pos e1] at this; exact this.symm
            clear hdr
            have HE1 := Lib.hid e1; clear e1
            by_cases e2 : f.2 = 1
            · have b2 : (f.2 == 1) = true := by simp [e2]
              rw [if_pos e2] at hz1
              have HZ1 := Lib.hid hz1; clear hz1 e2
              go_wp2
              go_ret2
              exact ⟨by rw [HZ1.out]; exact rfl, HFIN.out.1.keep (Touch.alloc (F := fun _ => False) _ _) (fun _ _ h => h), HFIN.out.2.trans (Touch.alloc _ _)⟩
            · have b2 : (f.2 == 1) = false := by simp [e2]
              rw [if_neg e2] at hz1
              clear e2
              by_cases e3 : f.2 = 2
              · have b3 : (f.2 == 2) = true := by simp [e3]
                cases may with
                | true =>
                  rw [if_pos ⟨e3, rfl⟩] at hz1
                  have HZ1 := Lib.hid hz1; clear hz1 e3
                  go_wp2
                  go_ret2
                  exact ⟨by rw [HZ1.out]; exact rfl, HFIN.out.1.keep (Touch.alloc (F := fun _ => False) _ _) (fun _ _ h => h), HFIN.out.2.trans (Touch.alloc _ _)⟩
                | false =>
                  rw [if_neg (by rintro ⟨_, h⟩; cases h)] at hz1
                  have HZ1 := Lib.hid hz1; clear hz1 e3
                  go_wp2
                  go_ret2
                  exact ⟨by rw [HZ1.out]; exact rfl, HFIN.out.1.keep (Touch.alloc (F := fun _ => False) _ _) (fun _ _ h => h), HFIN.out.2.trans (Touch.alloc _ _)⟩
              · have b3 : (f.2 == 2) = false := by simp [e3]
                rw [if_neg (by rintro ⟨h, _⟩; exact e3 h)] at hz1
                have HZ1 := Lib.hid hz1; clear hz1 e3
                go_wp2
                go_ret2
                exact ⟨by rw [HZ1.out]; exact rfl, HFIN.out.1.keep (Touch.alloc (F := fun _ => False) _ _) (fun _ _ h => h), HFIN.out.2.trans (Touch.alloc _ _)⟩
          · have b1 : (f.1 != X.calls) = true := by simp [e1]
            have hz1 : Wnd.scan may X.calls (X.plan.drop (k + 1)) = z := by
              have := HSC.out; rw [hdr] at this; unfold Wnd.scan at this; rw [if_neg e1] at this; exact this
            have HZ1 := Lib.hid hz1
            clear hdr hz1 e1
            go_wp2
            go_roundw
            case rel => exact ⟨k + 1, by omega, by go_num, HZ1.out, HBK.out.alloc hsz _⟩
            case measure => simp [intOf]; omega
        · have hkl : k = len := by omega
          have hz1 : z = 0 := by have := HSC.out; rw [hkl, HLEN.out, List.drop_length] at this; exact this.symm
          have HZ1 := Lib.hid hz1
          clear hz1
          subst hkl
          go_wp2
          go_ret2
          exact ⟨by rw [HZ1.out]; exact rfl, HFIN.out.1, HFIN.out.2⟩
    · have hlit0 : X.lit = false := by simpa using hl
      have hlit : X.count.lit = false := hlit0
      clear hlit0
      have HLIT := Lib.hid hlit
      clear hA hd ha hd' ha' hh hh' hok hF hlit hl hz hlen
      go_enter Try.func50, Try.ntmps50
      go_wp2
      go_quiet (fail)
      refine exit_world fun X1 hX => ?_
      have HA1 : Hid (WndAt X1 q dv X (.slice pa len pc) fq) := by rw [hX]; exact HA.out.keep fun _ _ => rfl
      have HT1 : Hid (Touch F w X1) := by rw [hX]; exact Touch.drewN _ _
      have y4 : X1.cell? ⟨q, 4, none⟩ = some (.int .i64 X.calls) := HA1.out.head.cell 4
      have y5 : X1.cell? ⟨q, 5, none⟩ = some (.int .i64 X.round) := HA1.out.head.cell 5
      have y4f : X1.frozen? ⟨q, 4, none⟩ = false := HA1.out.head.frozen 4
      have y5f : X1.frozen? ⟨q, 5, none⟩ = false := HA1.out.head.frozen 5
      have HC := Lib.hid HA1.out.count
      have hqF : F q := HFF.out q (.inl rfl)
      have HT3 : Hid (Touch F w ((X1.setCell ⟨q, 4, none⟩ (.int .i64 (X.calls + 1))).setCell ⟨q, 5, none⟩ (.int .i64 (X.round + 1)))) := (HT1.out.trans (Touch.setCell _ ⟨q, 4, none⟩ _ (Or.inl hqF))).trans (Touch.setCell _ ⟨q, 5, none⟩ _ (Or.inl hqF))
      clear hX h1 h2 h4 h5
      go_wp2_with (go_at_call 28; refine (lit_any q dv X.count (.slice pa len pc) fq _ HC.out).mono ?_; rintro e w2 ⟨rfl, hw2⟩; have HC2 : Hid (WndAt w2 q dv X.count (.slice pa len pc) fq) := hw2 ▸ HC; have HT2 : Hid (Touch F w w2) := hw2 ▸ HT3; clear hw2; rw [HLIT.out]; have z3 : w2.cell? ⟨q, 3, none⟩ = some (.slice pa len pc) := HC2.out.head.cell 3)
      go_loopw [74] (fun s wr => ∃ k : Nat, k ≤ len ∧ s = .int .i64 k ∧ Wnd.scan may X.calls (X.plan.drop k) = z ∧ Below w2.heap.size w2 wr) (fun s _ => len - (intOf s).toNat)
      case atStart => exact ⟨0, Nat.zero_le _, rfl, by rw [HZ.out]; rfl, Below.refl _ _⟩
      case round =>
        obtain ⟨k, hk, rfl, hsc, hbk⟩ := hrel
        have HSC := Lib.hid hsc
        have HBK := Lib.hid hbk
        have HFIN : Hid (Wn wr q dv X.count F ∧ Touch F w wr) := by
          have t : Touch F w wr := HT2.out.trans (Touch.of_below hbk)
          exact ⟨⟨_, _, HC2.out.keep fun q' hq' => hbk.block q' (HC2.out.foot_lt hq'), HFF.out⟩, t⟩
        clear hsc
        by_cases hlt : k < len
        · obtain ⟨f, hfk⟩ : ∃ f, X.plan[k]? = some f := ⟨_, List.getElem?_eq_getElem (by rw [← HLEN.out]; exact hlt)⟩
          obtain ⟨c1, c2⟩ := plan_get _ _ _ hfk
          have hpl := HC2.out.plan
          have hlen' : X.count.plan.length = len := HLEN.out.symm
          rw [hlen'] at hpl
          obtain ⟨g, cap, hv, _, hglt⟩ := hpl.form (by omega)
          have hpa : pa = some ⟨g, 0, none⟩ := by injection hv
          subst hpa
          have x1 : wr.cell? ⟨g, k * 2, none⟩ = some (.int .i64 f.1) := by
            have := hpl.cells (g := g) rfl (k * 2) _ c1
            rw [hbk.cell (p := ⟨g, k * 2, none⟩) hglt]; simpa [add_plain] using this
          have x2 : wr.cell? ⟨g, k * 2 + 1, none⟩ = some (.int .i64 f.2) := by
            have := hpl.cells (g := g) rfl (k * 2 + 1) _ c2
            rw [hbk.cell (p := ⟨g, k * 2 + 1, none⟩) hglt]; simpa [add_plain] using this
          have hdr : X.plan.drop k = f :: X.plan.drop (k + 1) := by
            rw [List.drop_eq_getElem_cons (by rw [← HLEN.out]; exact hlt)]
            congr 1
            rw [List.getElem?_eq_getElem (by rw [← HLEN.out]; exact hlt)] at hfk
            injection hfk
          have hsz := HBK.out.size
          clear c1 c2 hpl hv hbk hfk hlen'
          by_cases e1 : f.1 = X.calls
          · have b1 : (f.1 != X.calls) = false := by simp [e1]
            have hz1 : z = if f.2 = 1 then 120 else if f.2 = 2 ∧ may = true then 111 else 0 := by
              have := HSC.out; rw [hdr] at this; unfold Wnd.scan at this; rw [if_pos e1] at this; exact this.symm
            clear hdr
            have HE1 := Lib.hid e1; clear e1
            by_cases e2 : f.2 = 1
            · have b2 : (f.2 == 1) = true := by simp [e2]
              rw [if_pos e2] at hz1
              have HZ1 := Lib.hid hz1; clear hz1 e2
              go_wp2
              go_ret2
              exact ⟨by rw [HZ1.out]; exact rfl, HFIN.out.1.keep (Touch.alloc (F := fun _ => False) _ _) (fun _ _ h => h), HFIN.out.2.trans (Touch.alloc _ _)⟩
            · have b2 : (f.2 == 1) = false := by simp [e2]
              rw [if_neg e2] at hz1
              clear e2
              by_cases e3 : f.2 = 2
              · have b3 : (f.2 == 2) = true := by simp [e3]
                cases may with
                | true =>
                  rw [if_pos ⟨e3, rfl⟩] at hz1
                  have HZ1 := Lib.hid hz1; clear hz1 e3
                  go_wp2
                  go_ret2
                  exact ⟨by rw [HZ1.out]; exact rfl, HFIN.out.1.keep (Touch.alloc (F := fun _ => False) _ _) (fun _ _ h => h), HFIN.out.2.trans (Touch.alloc _ _)⟩
                | false =>
                  rw [if_neg (by rintro ⟨_, h⟩; cases h)] at hz1
                  have HZ1 := Lib.hid hz1; clear hz1 e3
                  go_wp2
                  go_ret2
                  exact ⟨by rw [HZ1.out]; exact rfl, HFIN.out.1.keep (Touch.alloc (F := fun _ => False) _ _) (fun _ _ h => h), HFIN.out.2.trans (Touch.alloc _ _)⟩
              · have b3 : (f.2 == 2) = false := by simp [e3]
                rw [if_neg (by rintro ⟨h, _⟩; exact e3 h)] at hz1
                have HZ1 := Lib.hid hz1; clear hz1 e3
                go_wp2
                go_ret2
                exact ⟨by rw [HZ1.out]; exact rfl, HFIN.out.1.keep (Touch.alloc (F := fun _ => False) _ _) (fun _ _ h => h), HFIN.out.2.trans (Touch.alloc _ _)⟩
          · have b1 : (f.1 != X.calls) = true := by simp [e1]
            have hz1 : Wnd.scan may X.calls (X.plan.drop (k + 1)) = z := by
              have := HSC.out; rw [hdr] at this; unfold Wnd.scan at this; rw [if_neg e1] at this; exact this
            have HZ1 := Lib.hid hz1
            clear hdr hz1 e1
            go_wp2
            go_roundw
            case rel => exact ⟨k + 1, by omega, by go_num, HZ1.out, HBK.out.alloc hsz _⟩
            case measure => simp [intOf]; omega
        · have hkl : k = len := by omega
          have hz1 : z = 0 := by have := HSC.out; rw [hkl, HLEN.out, List.drop_length] at this; exact this.symm
          have HZ1 := Lib.hid hz1
          clear hz1
          subst hkl
          go_wp2
          go_ret2
          exact ⟨by rw [HZ1.out]; exact rfl, HFIN.out.1, HFIN.out.2⟩
end Go.Proofs.Ytdmcjomcbhdcbaa
