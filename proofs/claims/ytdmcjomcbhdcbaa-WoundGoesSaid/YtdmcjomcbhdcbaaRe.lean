/- WoundReasons: the plain law: what a step of a wound answers, and what it leaves. No program in sight. -/
import Derived.Test.YtdmcjomcbhdcbaaLt
namespace Go.Proofs.Ytdmcjomcbhdcbaa
open Go.RowKit Go.Maps

theorem scan_code (may : Bool) (n : Int) : ∀ l, Wnd.scan may n l = 0 ∨ Wnd.scan may n l = 120 ∨ Wnd.scan may n l = 111
  | [] => .inl rfl
  | f :: r => by
    unfold Wnd.scan
    split
    · split
      · exact .inr (.inl rfl)
      · split
        · exact .inr (.inr rfl)
        · exact .inl rfl
    · exact scan_code may n r

/-- The answers of a call of the drive. -/
def errs (S : Drv) (r : Drv × Int) : Prop := (r.2 ≠ 0 → r.1 = S) ∧ r.2 ≠ 121 ∧ r.2 ≠ 122
theorem errs_ok (S T : Drv) : errs S (T, 0) := ⟨fun h => absurd rfl h, by simp, by simp⟩
theorem errs_same (S : Drv) {e : Int} (h1 : e ≠ 121) (h2 : e ≠ 122) : errs S (S, e) := ⟨fun _ => rfl, h1, h2⟩
theorem find_code {S : Drv} {s : Nm} {o : Option Nat} {e : Int} (h : S.find s = (o, e)) : e ≠ 121 ∧ e ≠ 122 := by
  unfold Drv.find at h
  repeat' split at h
  all_goals (injection h with h1 h2; subst h2; decide)
theorem create_errs (S : Drv) (s : Nm) : errs S (S.create s) := by
  unfold Drv.create
  split
  · exact errs_same S (by decide) (by decide)
  · split
    · exact errs_same S (by decide) (by decide)
    · exact errs_ok S _
theorem append_errs (S : Drv) (s : Nm) (d : List UInt8) : errs S (S.append s d) := by
  unfold Drv.append
  split
  · rename_i h; exact errs_same S (find_code h).1 (find_code h).2
  · split
    · exact errs_ok S _
    · split
      · exact errs_same S (by decide) (by decide)
      · exact errs_ok S _
theorem sync_errs (S : Drv) (s : Nm) : errs S (S.sync s) := by
  unfold Drv.sync
  split
  · rename_i h; exact errs_same S (find_code h).1 (find_code h).2
  · exact errs_ok S _
theorem rename_errs (S : Drv) (s t : Nm) : errs S (S.rename s t) := by
  unfold Drv.rename
  split
  · exact errs_same S (by decide) (by decide)
  · split
    · rename_i h; exact errs_same S (find_code h).1 (find_code h).2
    · split
      · exact errs_ok S _
      · exact errs_ok S _
theorem remove_errs (S : Drv) (s : Nm) : errs S (S.remove s) := by
  unfold Drv.remove
  split
  · rename_i h; exact errs_same S (find_code h).1 (find_code h).2
  · exact errs_ok S _
theorem read_errs (S : Drv) (s : Nm) : errs S (S, (S.read s).2) := by
  unfold Drv.read
  split
  · rename_i h; exact errs_same S (find_code h).1 (find_code h).2
  · exact errs_ok S _

/-- What a refused or a let-through call of a wound leaves. -/
structure Answers (X : Wnd) (S : Drv) (kind : Int) (Y : Wnd) (T : Drv) (e : Int) : Prop where
  down : X.down = true → Y = X ∧ T = S ∧ e = 122
  away : X.down = false → X.away = true → Y = X ∧ T = S ∧ e = 121
  hit : X.down = false → X.away = false → X.hits = true → Y = { X.count with down := true } ∧ e = 122 ∧ (kind ≠ 2 → T = S)
  goes : X.down = false → X.away = false → X.hits = false → Y = X.count ∧ e ≠ 121 ∧ e ≠ 122 ∧ (e ≠ 0 → T = S)

theorem struck_down {X : Wnd} (h : X.down = true) (may : Bool) : X.struck may = (X, 122, -1) := by unfold Wnd.struck; rw [if_pos h]
theorem struck_away {X : Wnd} (h : X.down = false) (ha : X.away = true) (may : Bool) : X.struck may = (X, 121, -1) := by unfold Wnd.struck; rw [if_neg (by simp [h]), if_pos ha]
theorem struck_hit {X : Wnd} (h : X.down = false) (ha : X.away = false) (hh : X.hits = true) (may : Bool) : X.struck may = ({ X.count with down := true }, 122, X.inside) := by unfold Wnd.struck; rw [if_neg (by simp [h]), if_neg (by simp [ha]), if_pos hh]
theorem struck_goes {X : Wnd} (h : X.down = false) (ha : X.away = false) (hh : X.hits = false) (may : Bool) : X.struck may = (X.count, Wnd.scan may X.calls X.plan, -1) := by unfold Wnd.struck; rw [if_neg (by simp [h]), if_neg (by simp [ha]), if_neg (by simp [hh])]

theorem wcall_answers (X : Wnd) (S : Drv) (may : Bool) (kind : Int) {f : Drv × Int} (hf : errs S f) : Answers X S kind (wcall X S may f).1 (wcall X S may f).2.1 (wcall X S may f).2.2 where
  down h := by unfold wcall; rw [struck_down h, if_neg (by simp)]; exact ⟨rfl, rfl, rfl⟩
  away h ha := by unfold wcall; rw [struck_away h ha, if_neg (by simp)]; exact ⟨rfl, rfl, rfl⟩
  hit h ha hh := by unfold wcall; rw [struck_hit h ha hh, if_neg (by simp)]; exact ⟨rfl, rfl, fun _ => rfl⟩
  goes h ha hh := by
    unfold wcall; rw [struck_goes h ha hh]
    split
    · exact ⟨rfl, hf.2.1, hf.2.2, hf.1⟩
    · rename_i h0
      simp only at h0
      refine ⟨rfl, ?_, ?_, fun _ => rfl⟩
      · rcases scan_code may X.calls X.plan with e | e | e <;> (simp only; omega)
      · rcases scan_code may X.calls X.plan with e | e | e <;> (simp only; omega)
theorem wappend_answers (X : Wnd) (S : Drv) (s : Nm) (bs : List UInt8) : Answers X S 2 (wappend X S s bs).1 (wappend X S s bs).2.1 (wappend X S s bs).2.2 where
  down h := by unfold wappend; rw [struck_down h, if_neg (by simp), if_neg (by rintro ⟨h, _⟩; exact absurd h (by simp))]; exact ⟨rfl, rfl, rfl⟩
  away h ha := by unfold wappend; rw [struck_away h ha, if_neg (by simp), if_neg (by rintro ⟨h, _⟩; exact absurd h (by simp))]; exact ⟨rfl, rfl, rfl⟩
  hit h ha hh := by
    unfold wappend; rw [struck_hit h ha hh, if_neg (by simp)]
    split
    · exact ⟨rfl, rfl, fun h => absurd rfl h⟩
    · exact ⟨rfl, rfl, fun h => absurd rfl h⟩
  goes h ha hh := by
    unfold wappend; rw [struck_goes h ha hh]
    split
    · have hf := append_errs S s bs; exact ⟨rfl, hf.2.1, hf.2.2, hf.1⟩
    · rename_i h0
      simp only at h0
      rw [if_neg (by rintro ⟨h, _⟩; exact absurd h (by simp))]
      refine ⟨rfl, ?_, ?_, fun _ => rfl⟩
      · rcases scan_code true X.calls X.plan with e | e | e <;> (simp only; omega)
      · rcases scan_code true X.calls X.plan with e | e | e <;> (simp only; omega)
theorem wread_answers (X : Wnd) (S : Drv) (kind : Int) {α : Type} (r : List α × Int) (hf : errs S (S, r.2)) : Answers X S kind (wread X r).1 S (wread X r).2.2 where
  down h := by unfold wread; rw [struck_down h, if_neg (by simp)]; exact ⟨rfl, rfl, rfl⟩
  away h ha := by unfold wread; rw [struck_away h ha, if_neg (by simp)]; exact ⟨rfl, rfl, rfl⟩
  hit h ha hh := by unfold wread; rw [struck_hit h ha hh, if_neg (by simp)]; exact ⟨rfl, rfl, fun _ => rfl⟩
  goes h ha hh := by
    unfold wread; rw [struck_goes h ha hh]
    split
    · exact ⟨rfl, hf.2.1, hf.2.2, fun _ => rfl⟩
    · rename_i h0
      simp only at h0
      refine ⟨rfl, ?_, ?_, fun _ => rfl⟩
      · rcases scan_code false X.calls X.plan with e | e | e <;> (simp only; omega)
      · rcases scan_code false X.calls X.plan with e | e | e <;> (simp only; omega)

theorem hurt8_answers (X : Wnd) (S : Drv) (x : PStep) (hk : 1 ≤ x.kind ∧ x.kind ≤ 8) : Answers X S x.kind (hurt8 X S x).1 (hurt8 X S x).2.1 (hurt8 X S x).2.2.e := by
  rcases (show x.kind = 1 ∨ x.kind = 2 ∨ x.kind = 3 ∨ x.kind = 4 ∨ x.kind = 5 ∨ x.kind = 6 ∨ x.kind = 7 ∨ x.kind = 8 by omega) with h | h | h | h | h | h | h | h
  · unfold hurt8; rw [if_pos h]; exact wcall_answers X S true _ (create_errs S _)
  · unfold hurt8; rw [if_neg (by omega), if_pos h, h]; exact wappend_answers X S _ _
  · unfold hurt8; rw [if_neg (by omega), if_neg (by omega), if_pos h]; exact wcall_answers X S false _ (sync_errs S _)
  · unfold hurt8; rw [if_neg (by omega), if_neg (by omega), if_neg (by omega), if_pos h]; exact wcall_answers X S false _ (rename_errs S _ _)
  · unfold hurt8; rw [if_neg (by omega), if_neg (by omega), if_neg (by omega), if_neg (by omega), if_pos h]; exact wcall_answers X S false _ (remove_errs S _)
  · unfold hurt8; rw [if_neg (by omega), if_neg (by omega), if_neg (by omega), if_neg (by omega), if_neg (by omega), if_pos h]; exact wcall_answers X S false _ (errs_ok S _)
  · unfold hurt8; rw [if_neg (by omega), if_neg (by omega), if_neg (by omega), if_neg (by omega), if_neg (by omega), if_neg (by omega), if_pos h]; exact wread_answers X S _ _ (read_errs S _)
  · unfold hurt8; rw [if_neg (by omega), if_neg (by omega), if_neg (by omega), if_neg (by omega), if_neg (by omega), if_neg (by omega), if_neg (by omega), if_pos h]; exact wread_answers X S _ _ (errs_ok S S)

theorem hits_lit {X : Wnd} (h : X.hits = true) : X.lit = true := by
  unfold Wnd.hits at h
  unfold Wnd.lit
  split at h
  · simp only [Bool.and_eq_true] at h; exact h.1
  · cases h

theorem wcall_inv {X : Wnd} {S : Drv} {M : Nat} {may : Bool} {f : Drv × Int} (h : S.Inv M) (hf : f.1.Inv M) : (wcall X S may f).2.1.Inv M := by
  unfold wcall
  split
  · exact hf
  · exact h
theorem hurt8_inv {X : Wnd} {S : Drv} {N : Nat} (h : S.Inv N) (x : PStep) (hr : (N + 1) * S.room ≤ 1152921504606846976) : (hurt8 X S x).2.1.Inv (N + 1) := by
  have up : S.Inv (N + 1) := h.mono (by omega) hr
  unfold hurt8
  split
  · exact wcall_inv up (Drv.create_inv h _ hr)
  · split
    · show (wappend X S x.nm x.data).2.1.Inv (N + 1)
      unfold wappend
      split
      · exact Drv.append_inv h _ _ hr
      · split
        · exact Drv.append_inv h _ _ hr
        · exact up
    · split
      · exact wcall_inv up (Drv.sync_inv h _ hr)
      · split
        · exact wcall_inv up (Drv.rename_inv h _ _ hr)
        · split
          · exact wcall_inv up (Drv.remove_inv h _ hr)
          · split
            · exact wcall_inv up (Drv.syncDir_inv h hr)
            · split
              · exact up
              · split
                · exact up
                · exact up

/-- What a wound keeps over k steps. -/
structure Wnd.OkN (X : Wnd) (k : Nat) : Prop where
  calls : 0 ≤ X.calls ∧ X.calls ≤ k
  round : 0 ≤ X.round ∧ X.round ≤ k
  plan : X.plan.length ≤ 8796093021952
  fuse : ∀ f, X.fuse = some f → 0 ≤ f.round ∧ f.round ≤ 9223372036854775807
theorem Wnd.OkN.ok {X : Wnd} {k : Nat} (h : X.OkN k) (hk : k ≤ 1152921504606846976) : X.Ok :=
  ⟨⟨h.calls.1, by have := h.calls.2; omega⟩, ⟨h.round.1, by have := h.round.2; omega⟩, h.plan, h.fuse⟩
theorem Wnd.OkN.up {X : Wnd} {k : Nat} (h : X.OkN k) : X.OkN (k + 1) :=
  ⟨⟨h.calls.1, by have := h.calls.2; omega⟩, ⟨h.round.1, by have := h.round.2; omega⟩, h.plan, h.fuse⟩
theorem Wnd.OkN.new : Wnd.new.OkN 0 := ⟨by decide, by decide, by decide, fun f hf => by cases hf⟩
theorem Wnd.OkN.cnt {X : Wnd} {k : Nat} (h : X.OkN k) (d : Bool) : ({ X.count with down := d } : Wnd).OkN (k + 1) :=
  ⟨⟨by have := h.calls.1; show (0 : Int) ≤ X.calls + 1; omega, by have := h.calls.2; show X.calls + 1 ≤ _; omega⟩, ⟨by have := h.round.1; show (0 : Int) ≤ X.round + 1; omega, by have := h.round.2; show X.round + 1 ≤ _; omega⟩, h.plan, h.fuse⟩
theorem hurt8_okN {X : Wnd} {k : Nat} (h : X.OkN k) (S : Drv) (x : PStep) (hk : 1 ≤ x.kind ∧ x.kind ≤ 8) : (hurt8 X S x).1.OkN (k + 1) := by
  have ha := hurt8_answers X S x hk
  cases h1 : X.down with
  | true => rw [(ha.down h1).1]; exact h.up
  | false =>
    cases h2 : X.away with
    | true => rw [(ha.away h1 h2).1]; exact h.up
    | false =>
      cases h3 : X.hits with
      | true => rw [(ha.hit h1 h2 h3).1]; exact h.cnt true
      | false => rw [(ha.goes h1 h2 h3).1]; exact h.cnt X.count.down
theorem hurt25_okN {X : Wnd} {k : Nat} (h : X.OkN k) (S : Drv) {x : PStep} (hx : x.Fits) : (hurt25 X S x).1.OkN (k + 1) := by
  by_cases h8 : 1 ≤ x.kind ∧ x.kind ≤ 8
  · rw [hurt25_call h8]; exact hurt8_okN h S x h8
  · by_cases h16 : 1 ≤ x.kind ∧ x.kind ≤ 16
    · rcases (show x.kind = 9 ∨ x.kind = 10 ∨ x.kind = 11 ∨ x.kind = 12 ∨ x.kind = 13 ∨ x.kind = 14 ∨ x.kind = 15 ∨ x.kind = 16 by omega) with e | e | e | e | e | e | e | e
      · rw [hurt25_arm e]; exact ⟨⟨Int.le_refl _, by show (0 : Int) ≤ _; omega⟩, ⟨h.up.round.1, h.up.round.2⟩, by show x.plan.length ≤ _; have := hx.plan; omega, h.fuse⟩
      · rw [hurt25_calls e]; exact h.up
      · rw [hurt25_offline e]; exact ⟨h.up.calls, h.up.round, h.plan, h.fuse⟩
      · rw [hurt25_fuse e]
        refine ⟨h.up.calls, h.up.round, h.plan, fun f hf => ?_⟩
        have hw := hx.wa
        simp only [Wnd.setFuse] at hf
        split at hf
        · injection hf with hf
          subst hf
          rename_i h0
          refine ⟨h0, ?_⟩
          simp only [Lit.wf, Bool.and_eq_true, decide_eq_true_eq] at hw
          exact hw.2
        · cases hf
      · rw [hurt25_lit e]; exact h.up
      · rw [hurt25_rest e]
        refine ⟨h.up.calls, ⟨Int.le_refl _, by show (0 : Int) ≤ _; omega⟩, h.plan, fun f hf => ?_⟩
        simp only [Wnd.rest] at hf
        split at hf
        · rename_i g hg
          split at hf
          · cases hf
          · injection hf with hf
            subst hf
            have := h.fuse g hg
            show 0 ≤ g.round - 1 ∧ g.round - 1 ≤ _
            omega
        · cases hf
      · rw [hurt25_power e]; exact ⟨h.up.calls, h.up.round, h.plan, h.fuse⟩
      · rw [hurt25_on e]; exact h.up
    · rw [hurt25_own h16]; exact h.up
theorem hurt25_inv {X : Wnd} {S : Drv} {N : Nat} (h : S.Inv N) (x : PStep) (hr : (N + 1) * S.room ≤ 1152921504606846976) : (hurt25 X S x).2.1.Inv (N + 1) := by
  have up : S.Inv (N + 1) := h.mono (by omega) hr
  by_cases h8 : 1 ≤ x.kind ∧ x.kind ≤ 8
  · rw [hurt25_call h8]; exact hurt8_inv h x hr
  · by_cases h16 : 1 ≤ x.kind ∧ x.kind ≤ 16
    · rcases (show x.kind = 9 ∨ x.kind = 10 ∨ x.kind = 11 ∨ x.kind = 12 ∨ x.kind = 13 ∨ x.kind = 14 ∨ x.kind = 15 ∨ x.kind = 16 by omega) with e | e | e | e | e | e | e | e
      · rw [hurt25_arm e]; exact up
      · rw [hurt25_calls e]; exact up
      · rw [hurt25_offline e]; exact up
      · rw [hurt25_fuse e]; exact up
      · rw [hurt25_lit e]; exact up
      · rw [hurt25_rest e]; exact up
      · rw [hurt25_power e]; exact up
      · rw [hurt25_on e]; exact up
    · rw [hurt25_own h16]; exact plain25_inv h x hr
theorem create_room (S : Drv) (s : Nm) : (S.create s).1.room = S.room := by
  unfold Drv.create
  repeat' (first | rfl | exact change_room _ _ | split)
theorem append_room (S : Drv) (s : Nm) (d : List UInt8) : (S.append s d).1.room = S.room := by
  unfold Drv.append Drv.setBody
  repeat' (first | rfl | split)
theorem sync_room (S : Drv) (s : Nm) : (S.sync s).1.room = S.room := by
  unfold Drv.sync Drv.setBody
  repeat' (first | rfl | split)
theorem rename_room (S : Drv) (s t : Nm) : (S.rename s t).1.room = S.room := by
  unfold Drv.rename
  repeat' (first | rfl | exact change_room _ _ | split)
theorem remove_room (S : Drv) (s : Nm) : (S.remove s).1.room = S.room := by
  unfold Drv.remove
  repeat' (first | rfl | exact change_room _ _ | split)
theorem wcall_room {X : Wnd} {S : Drv} {may : Bool} {f : Drv × Int} (hf : f.1.room = S.room) : (wcall X S may f).2.1.room = S.room := by
  unfold wcall
  split
  · exact hf
  · rfl
theorem wappend_room (X : Wnd) (S : Drv) (s : Nm) (bs : List UInt8) : (wappend X S s bs).2.1.room = S.room := by
  unfold wappend
  split
  · exact append_room _ _ _
  · split
    · exact append_room _ _ _
    · rfl
theorem hurt8_room (X : Wnd) (S : Drv) (x : PStep) : (hurt8 X S x).2.1.room = S.room := by
  unfold hurt8
  split
  · exact wcall_room (create_room _ _)
  · split
    · exact wappend_room _ _ _ _
    · split
      · exact wcall_room (sync_room _ _)
      · split
        · exact wcall_room (rename_room _ _ _)
        · split
          · exact wcall_room (remove_room _ _)
          · split
            · exact wcall_room rfl
            · split
              · rfl
              · split
                · rfl
                · rfl
theorem hurt25_room (X : Wnd) (S : Drv) (x : PStep) : (hurt25 X S x).2.1.room = S.room := by
  by_cases h8 : 1 ≤ x.kind ∧ x.kind ≤ 8
  · rw [hurt25_call h8]; exact hurt8_room X S x
  · by_cases h16 : 1 ≤ x.kind ∧ x.kind ≤ 16
    · rcases (show x.kind = 9 ∨ x.kind = 10 ∨ x.kind = 11 ∨ x.kind = 12 ∨ x.kind = 13 ∨ x.kind = 14 ∨ x.kind = 15 ∨ x.kind = 16 by omega) with e | e | e | e | e | e | e | e
      · rw [hurt25_arm e]
      · rw [hurt25_calls e]
      · rw [hurt25_offline e]
      · rw [hurt25_fuse e]
      · rw [hurt25_lit e]
      · rw [hurt25_rest e]
      · rw [hurt25_power e]
      · rw [hurt25_on e]
    · rw [hurt25_own h16]; exact plain25_room S x
theorem hurt25_away (X : Wnd) (S : Drv) (x : PStep) : (hurt25 X S x).1.away = if x.kind = 11 then x.yes else X.away := by
  by_cases h8 : 1 ≤ x.kind ∧ x.kind ≤ 8
  · rw [hurt25_call h8, if_neg (by omega)]
    have ha := hurt8_answers X S x h8
    cases h1 : X.down with
    | true => rw [(ha.down h1).1]
    | false =>
      cases h2 : X.away with
      | true => rw [(ha.away h1 h2).1]; exact h2
      | false =>
        cases h3 : X.hits with
        | true => rw [(ha.hit h1 h2 h3).1]; exact h2
        | false => rw [(ha.goes h1 h2 h3).1]; exact h2
  · by_cases h16 : 1 ≤ x.kind ∧ x.kind ≤ 16
    · rcases (show x.kind = 9 ∨ x.kind = 10 ∨ x.kind = 11 ∨ x.kind = 12 ∨ x.kind = 13 ∨ x.kind = 14 ∨ x.kind = 15 ∨ x.kind = 16 by omega) with e | e | e | e | e | e | e | e
      · rw [hurt25_arm e, if_neg (by omega)]; rfl
      · rw [hurt25_calls e, if_neg (by omega)]
      · rw [hurt25_offline e, if_pos e]
      · rw [hurt25_fuse e, if_neg (by omega)]; rfl
      · rw [hurt25_lit e, if_neg (by omega)]
      · rw [hurt25_rest e, if_neg (by omega)]; rfl
      · rw [hurt25_power e, if_neg (by omega)]
      · rw [hurt25_on e, if_neg (by omega)]
    · rw [hurt25_own h16, if_neg (by omega)]
theorem hurt25_names (X : Wnd) (S : Drv) (x : PStep) (hS : S.Small) : (hurt25 X S x).2.2.names.length ≤ 2199023254000 ∧ (hurt25 X S x).2.2.files.length ≤ 2199023254000 := by
  by_cases h8 : 1 ≤ x.kind ∧ x.kind ≤ 8
  · rw [hurt25_call h8]
    have hn : (wread X (dnames S.now, (0 : Int))).2.1.length ≤ 2199023254000 := by
      unfold wread
      split
      · show (dnames S.now).length ≤ _; rw [dnames_length]; exact hS.now
      · exact Nat.zero_le _
    unfold hurt8
    repeat' (first | exact ⟨Nat.zero_le _, Nat.zero_le _⟩ | exact ⟨hn, Nat.zero_le _⟩ | split)
  · by_cases h16 : 1 ≤ x.kind ∧ x.kind ≤ 16
    · rcases (show x.kind = 9 ∨ x.kind = 10 ∨ x.kind = 11 ∨ x.kind = 12 ∨ x.kind = 13 ∨ x.kind = 14 ∨ x.kind = 15 ∨ x.kind = 16 by omega) with e | e | e | e | e | e | e | e
      · rw [hurt25_arm e]; exact ⟨Nat.zero_le _, Nat.zero_le _⟩
      · rw [hurt25_calls e]; exact ⟨Nat.zero_le _, Nat.zero_le _⟩
      · rw [hurt25_offline e]; exact ⟨Nat.zero_le _, Nat.zero_le _⟩
      · rw [hurt25_fuse e]; exact ⟨Nat.zero_le _, Nat.zero_le _⟩
      · rw [hurt25_lit e]; exact ⟨Nat.zero_le _, Nat.zero_le _⟩
      · rw [hurt25_rest e]; exact ⟨Nat.zero_le _, Nat.zero_le _⟩
      · rw [hurt25_power e]; exact ⟨Nat.zero_le _, Nat.zero_le _⟩
      · rw [hurt25_on e]; exact ⟨Nat.zero_le _, Nat.zero_le _⟩
    · rw [hurt25_own h16]; exact plain25_names S x hS
end Go.Proofs.Ytdmcjomcbhdcbaa
