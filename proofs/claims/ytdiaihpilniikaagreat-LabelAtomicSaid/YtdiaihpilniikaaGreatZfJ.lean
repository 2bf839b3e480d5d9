/- LabelAtomic: the plain law: a label is written through a wound, whatever strikes, and the power may go. No program in sight. -/
import Derived.Test.YtdiaihpilniikaaGreatHwJ
import Derived.Test.YtdiaihpilniikaaGreatM12
namespace Go.Proofs.YtdiaihpilniikaaGreat
open Go.RowKit Go.Maps

theorem find_key {s : Nm} : ∀ {es : List (Lit × DataW Unit)}, es.Pairwise (fun p q => p.1 ≠ q.1) → ∀ {p : Lit × DataW Unit}, p ∈ es → p.1 = key s → es.find? (fun q => q.1.sameKey (key s)) = some p
  | e :: es, h, p, hp, hk => by
    obtain ⟨h1, h2⟩ := List.pairwise_cons.1 h
    rcases List.mem_cons.1 hp with rfl | hp
    · rw [List.find?_cons_of_pos]
      rw [hk]; simp [Lit.sameKey, key]
    · rw [List.find?_cons_of_neg]
      · exact find_key h2 hp hk
      · intro hc
        exact h1 p hp ((sameKey_key hc).trans hk.symm)
theorem refs_name {D : Dir} (hk : NmKeys D) (ht : Tidy D) {i : Nat} (h : i ∈ refs D) : ∃ s, dget D s = some i := by
  obtain ⟨es, rfl, hp⟩ := ht
  obtain ⟨p, hp1, hp2⟩ := List.mem_filterMap.1 h
  obtain ⟨s, hs⟩ := hk p hp1
  refine ⟨s, ?_⟩
  unfold dget
  rw [atKey_map, find_key hp hp1 hs]
  exact hp2
theorem Drv.sum_le_mem (S : Drv) {M : Nat} : ∀ {l : List Nat}, (∀ i ∈ l, S.len i ≤ M) → S.sum l ≤ l.length * M
  | [], _ => by simp [Drv.sum]
  | x :: l, h => by
    have h1 := h x List.mem_cons_self
    have h2 := Drv.sum_le_mem S (l := l) fun i hi => h i (List.mem_cons_of_mem _ hi)
    simp only [Drv.sum, List.map_cons, List.sum_cons, List.length_cons] at *
    rw [Nat.add_mul]; omega
theorem two_names {a b : Nm} : ∀ {l : List Nm}, l.Nodup → (∀ s ∈ l, s = a ∨ s = b) → l.length ≤ 2
  | [], _, _ => by simp
  | [_], _, _ => by simp
  | [_, _], _, _ => by simp
  | x :: y :: z :: r, hn, h => by
    exfalso
    obtain ⟨h1, h2⟩ := List.nodup_cons.1 hn
    obtain ⟨h3, _⟩ := List.nodup_cons.1 h2
    have hx := h x (by simp)
    have hy := h y (by simp)
    have hz := h z (by simp)
    have n1 : x ≠ y := fun e => h1 (by rw [e]; simp)
    have n2 : x ≠ z := fun e => h1 (by rw [e]; simp)
    have n3 : y ≠ z := fun e => h3 (by rw [e]; simp)
    rcases hx with rfl | rfl <;> rcases hy with rfl | rfl <;> rcases hz with rfl | rfl <;> simp_all

def labN : Nm := [108]
/-- What the drive may show: no label, where none was acknowledged; one of these; no other file but the temporary one. -/
def Pm (may : List Lab) (nn : Bool) : Nm → Option (List UInt8) → Prop := fun s y => (s = labN → (y = none ∧ nn = true) ∨ ∃ l ∈ may, y = some l.bytes) ∧ (s ≠ labN → y = none)
theorem labN_named : named labN = true := by decide
theorem labN_ne : labN ≠ tmpN := by decide
/-- The state at the head of a turn. -/
structure LAt (may : List Lab) (nn : Bool) (c N : Nat) (X : Wnd) (S : Drv) : Prop where
  kept : Kept X S c N 1048576
  holds : Holds S (Pm may nn)
  down : X.down = false
  labs : ∀ l ∈ may, l.st.length = 8 ∧ l.may = 0

theorem lab_len {may : List Lab} {nn : Bool} {S : Drv} (h : Pm may nn labN (S.shows labN)) (hl : ∀ l ∈ may, l.st.length = 8) {i : Nat} (hi : dget S.now labN = some i) : S.len i = 31 := by
  rcases h.1 rfl with ⟨h1, _⟩ | ⟨l, hm, h1⟩
  · unfold Drv.shows at h1; rw [hi] at h1; cases h1
  · unfold Drv.shows at h1; rw [hi] at h1
    have h2 : (S.body i).data = l.bytes := Option.some.inj h1
    show (S.body i).data.length = 31
    rw [h2, l.bytes_length (hl l hm)]
theorem names_two {may : List Lab} {nn : Bool} {S : Drv} {N : Nat} (hI : S.Inv N) (h : Holds S (Pm may nn)) : size S.now ≤ 2 := by
  rw [← dnames_length]
  refine two_names (a := tmpN) (b := labN) (dnames_nodup hI.know hI.tnow) fun s hs => ?_
  by_cases h1 : s = tmpN
  · exact .inl h1
  · by_cases h2 : s = labN
    · exact .inr h2
    · exfalso
      have hn := (h.now s h1).2 h2
      obtain ⟨_, i, hi⟩ := hI.fnow s (mem_dnames hI.know hI.tnow hs)
      unfold Drv.shows at hn
      rw [hi] at hn; cases hn

/-- A wound that refuses nothing. -/
structure Calm (X : Wnd) : Prop where
  down : X.down = false
  away : X.away = false
  plan : X.plan = []
  fuse : X.fuse = none
theorem Calm.struck {X : Wnd} (h : Calm X) (may : Bool) : X.struck may = (X.count, 0, -1) := by
  unfold Wnd.struck
  rw [if_neg (by rw [h.down]; decide), if_neg (by rw [h.away]; decide), if_neg (by unfold Wnd.hits; rw [h.fuse]; exact Bool.false_ne_true), h.plan]
  rfl
theorem Calm.count {X : Wnd} (h : Calm X) : Calm X.count := ⟨h.down, h.away, h.plan, h.fuse⟩
theorem Calm.call {X : Wnd} (h : Calm X) (S : Drv) (may : Bool) (f : Drv × Int) : wcall X S may f = (X.count, f.1, f.2) := by
  unfold wcall; rw [h.struck]; rfl
theorem Calm.append {X : Wnd} (h : Calm X) (S : Drv) (s : Nm) (bs : List UInt8) : wappend X S s bs = (X.count, (S.append s bs).1, (S.append s bs).2) := by
  unfold wappend; rw [h.struck]; rfl
theorem Calm.read {X : Wnd} (h : Calm X) {α : Type} (r : List α × Int) : wread X r = (X.count, r.1, r.2) := by
  unfold wread; rw [h.struck]; rfl

/-- Without faults a label is written. -/
theorem calm_writes {may : List Lab} {nn : Bool} {X : Wnd} {S : Drv} {c N : Nat} (h : LAt may nn c N X S) (hC : Calm X) (hr : (N + 5) * 1048576 ≤ 1152921504606846976) (l : Lab) (hl : l.st.length = 8) : (awrite X S labN l.bytes).2.2 = 0 := by
  have hI := h.kept.drv
  have hroom := h.kept.room
  have hrk : ∀ k, k ≤ 5 → (N + k) * 1048576 ≤ 1152921504606846976 := fun k hk => Nat.le_trans (Nat.mul_le_mul_right _ (by omega)) hr
  have hr1 : (N + 1) * S.room ≤ 1152921504606846976 := by rw [hroom]; exact hrk 1 (by omega)
  have hb := l.bytes_length hl
  -- create
  have hsz := names_two hI h.holds
  obtain ⟨S1, h1⟩ : ∃ S1, S.create tmpN = (S1, 0) := by
    unfold Drv.create
    rw [if_neg (by decide), if_neg (by rintro ⟨_, h⟩; omega)]
    exact ⟨_, rfl⟩
  obtain ⟨H1, F1, d1, sh1⟩ := h.holds.create hI.tnow h1
  have I1 : S1.Inv (N + 1) := by have := Drv.create_inv hI tmpN hr1; rw [h1] at this; exact this
  have R1 : S1.room = 1048576 := by have := Drv.create_keepsRoom S tmpN; rw [h1] at this; exact this.trans hroom
  -- append
  have hsz1 := names_two I1 H1
  have hused : S1.used ≤ 62 := by
    rw [I1.used]
    have hrl := refs_length I1.tnow
    have := S1.sum_le_mem (M := 31) (l := refs S1.now) fun i hi => by
      obtain ⟨s, hs⟩ := refs_name I1.know I1.tnow hi
      by_cases e1 : s = tmpN
      · rw [e1, F1.here] at hs; injection hs with hs; subst hs
        show (S1.body _).data.length ≤ 31
        rw [d1]; decide
      · by_cases e2 : s = labN
        · subst e2
          have := lab_len (H1.now labN labN_ne) (fun l hl => (h.labs l hl).1) hs
          omega
        · have hn := (H1.now s e1).2 e2
          unfold Drv.shows at hn
          rw [hs] at hn; cases hn
    have h2 : (refs S1.now).length * 31 ≤ 2 * 31 := Nat.mul_le_mul_right _ (by omega)
    omega
  obtain ⟨S2, h2⟩ : ∃ S2, S1.append tmpN l.bytes = (S2, 0) := by
    unfold Drv.append
    rw [find_fresh F1]
    simp only
    rw [if_neg (by intro e; rw [e] at hb; cases hb), if_neg (by rw [R1, hb]; omega)]
    exact ⟨_, rfl⟩
  obtain ⟨H2, F2, d2, _⟩ := H1.append F1 l.bytes h2
  have I2 : S2.Inv (N + 1 + 1) := by have := Drv.append_inv I1 tmpN l.bytes (by rw [R1]; exact hrk 2 (by omega)); rw [h2] at this; exact this
  obtain ⟨S3, x3, h3⟩ : ∃ S3 x3, S2.sync tmpN = (S3, x3) := ⟨_, _, rfl⟩
  obtain ⟨H3, F3, x30, d3, w3, _⟩ := H2.sync F2 h3
  subst x30
  have R2 : S2.room = 1048576 := by have := Drv.append_keepsRoom S1 tmpN l.bytes; rw [h2] at this; exact this.trans R1
  have I3 : S3.Inv (N + 1 + 1 + 1) := by have := Drv.sync_inv I2 tmpN (by rw [R2]; exact hrk 3 (by omega)); rw [h3] at this; exact this
  obtain ⟨S4, x4, h4⟩ : ∃ S4 x4, S3.rename tmpN labN = (S4, x4) := ⟨_, _, rfl⟩
  obtain ⟨x40, _⟩ := H3.rename I3.tnow F3 labN labN_named labN_ne w3 h4
  subst x40
  have C1 := hC.count
  have C2 := C1.count
  have C3 := C2.count
  have C4 := C3.count
  have e0 : awStep labN l.bytes (X, S) 0 = (X.count, S1, 0) := by
    show wcall X S true (S.create tmpN) = _
    rw [hC.call, h1]
  have e1 : awStep labN l.bytes (X.count, S1) 1 = (X.count.count, S2, 0) := by
    show wappend X.count S1 tmpN l.bytes = _
    rw [C1.append, h2]
  have e2 : awStep labN l.bytes (X.count.count, S2) 2 = (X.count.count.count, S3, 0) := by
    show wcall X.count.count S2 false (S2.sync tmpN) = _
    rw [C2.call, h3]
  have e3 : awStep labN l.bytes (X.count.count.count, S3) 3 = (X.count.count.count.count, S4, 0) := by
    show wcall X.count.count.count S3 false (S3.rename tmpN labN) = _
    rw [C3.call, h4]
  have e4 : awStep labN l.bytes (X.count.count.count.count, S4) 4 = (X.count.count.count.count.count, S4.syncDir, 0) := by
    show wcall X.count.count.count.count S4 false (S4.syncDir, 0) = _
    rw [C4.call]
  show (awFrom labN l.bytes 5 0 (X, S)).2.2 = 0
  have go : ∀ {n k : Nat} {Z : Wnd × Drv} {Y : Wnd} {T : Drv}, awStep labN l.bytes Z k = (Y, T, 0) → awFrom labN l.bytes (n + 1) k Z = awFrom labN l.bytes n (k + 1) (Y, T) := fun h => by
    show (if _ then _ else _) = _
    rw [h, if_pos rfl]
  rw [go e0, go e1, go e2, go e3, go e4]
  rfl

/-- What a writing leaves of the wound. -/
theorem struck_keeps (X : Wnd) (may : Bool) : (X.struck may).1.fuse = X.fuse ∧ (X.struck may).1.plan = X.plan ∧ (X.lit = false → (X.struck may).1.down = X.down) := by
  unfold Wnd.struck
  split
  · exact ⟨rfl, rfl, fun _ => rfl⟩
  · split
    · exact ⟨rfl, rfl, fun _ => rfl⟩
    · split
      · rename_i hh
        refine ⟨rfl, rfl, fun hl => ?_⟩
        exfalso
        unfold Wnd.hits at hh
        unfold Wnd.lit at hl
        cases hf : X.fuse with
        | none => rw [hf] at hh; cases hh
        | some f =>
          rw [hf] at hh hl
          simp only [Bool.and_eq_true] at hh
          simp only at hl
          rw [hl] at hh; exact absurd hh.1 (by decide)
      · exact ⟨rfl, rfl, fun _ => rfl⟩
theorem awStep_wnd (nm : Nm) (bs : List UInt8) (Z : Wnd × Drv) (k : Nat) : ∃ may, (awStep nm bs Z k).1 = (Z.1.struck may).1 := by
  have hw : ∀ (S : Drv) (may : Bool) (f : Drv × Int), (wcall Z.1 S may f).1 = (Z.1.struck may).1 := fun S may f => by unfold wcall; split <;> rfl
  unfold awStep
  split
  · exact ⟨_, hw _ _ _⟩
  · refine ⟨true, ?_⟩
    unfold wappend
    split
    · rfl
    · split <;> rfl
  · exact ⟨_, hw _ _ _⟩
  · exact ⟨_, hw _ _ _⟩
  · exact ⟨_, hw _ _ _⟩
theorem lit_of_fuse {X Y : Wnd} (h : Y.fuse = X.fuse) : Y.lit = X.lit := by unfold Wnd.lit; rw [h]
theorem awFrom_wnd (nm : Nm) (bs : List UInt8) : ∀ (n k : Nat) (Z : Wnd × Drv), (awFrom nm bs n k Z).1.fuse = Z.1.fuse ∧ (awFrom nm bs n k Z).1.plan = Z.1.plan ∧ (Z.1.lit = false → (awFrom nm bs n k Z).1.down = Z.1.down)
  | 0, _, _ => ⟨rfl, rfl, fun _ => rfl⟩
  | n + 1, k, Z => by
    obtain ⟨may, hm⟩ := awStep_wnd nm bs Z k
    obtain ⟨a, b, c⟩ := struck_keeps Z.1 may
    rw [← hm] at a b c
    unfold awFrom
    split
    · obtain ⟨a', b', c'⟩ := awFrom_wnd nm bs n (k + 1) ((awStep nm bs Z k).1, (awStep nm bs Z k).2.1)
      exact ⟨a'.trans a, b'.trans b, fun h => (c' (by rw [← h]; exact lit_of_fuse a)).trans (c h)⟩
    · exact ⟨a, b, c⟩

/-- The wound ahead of a writing. -/
def turnX (X : Wnd) (plan : List (Int × Int)) (away fused : Bool) (call inside : Int) : Wnd :=
  if fused = true then (({ X.arm plan with away := away } : Wnd).setFuse (-1) 0 0).setFuse 0 call inside else ({ X.arm plan with away := away } : Wnd).setFuse (-1) 0 0
/-- The wound behind it. -/
def turnY (Y : Wnd) : Wnd := ({ Y.rest Y.lit with away := false } : Wnd).arm []
/-- ... and behind the loss of power, if there is one. -/
def turnZ (Y : Wnd) (lost : Bool) : Wnd := if Y.lit = true ∨ lost = true then { turnY Y with down := false } else turnY Y
def turnS (T : Drv) (Y : Wnd) (lost : Bool) (dirs : List Bool) (cuts : List Int) : Drv := if Y.lit = true ∨ lost = true then T.crash dirs cuts else T
theorem turnX_okn {X : Wnd} {c : Nat} (h : X.Okn c) (plan : List (Int × Int)) (hp : plan.length ≤ 8796093021952) (away fused : Bool) (call inside : Int) : (turnX X plan away fused call inside).Okn c := by
  unfold turnX
  have h1 := ((h.arm plan hp).away away).fused (-1) 0 0 (by decide)
  split
  · exact h1.fused 0 call inside (by decide)
  · exact h1
theorem turnX_facts (X : Wnd) (plan : List (Int × Int)) (away fused : Bool) (call inside : Int) : (turnX X plan away fused call inside).down = X.down ∧ (turnX X plan away fused call inside).calls = 0 ∧ (turnX X plan away fused call inside).away = away ∧ (turnX X plan away fused call inside).plan = plan ∧ (∀ f, (turnX X plan away fused call inside).fuse = some f → f.round = 0) ∧ (fused = false → (turnX X plan away fused call inside).fuse = none) := by
  cases fused with
  | true => exact ⟨rfl, rfl, rfl, rfl, fun f hf => (by have e : some (⟨0, call, inside⟩ : Fz) = some f := hf; injection e with e; rw [← e]), fun h => by cases h⟩
  | false => exact ⟨rfl, rfl, rfl, rfl, fun f hf => (by have e : (none : Option Fz) = some f := hf; cases e), fun _ => rfl⟩

/-- A turn: what stands behind it. -/
theorem turn_law {may : List Lab} {nn : Bool} {X Y : Wnd} {S T : Drv} {c N : Nat} {x : Int} (h : LAt may nn c N X S) (hr : (N + 5) * 1048576 ≤ 1152921504606846976) (plan : List (Int × Int)) (hp : plan.length ≤ 8796093021952) (away fused : Bool) (call inside : Int) (l : Lab) (hl : l.st.length = 8) (hm : l.may = 0)
    (hy : awrite (turnX X plan away fused call inside) S labN l.bytes = (Y, T, x)) :
    (x = 0 → Holds T (Pm [l] false) ∧ T.shows labN = some l.bytes) ∧ (x ≠ 0 → Holds T (Pm (may ++ [l]) nn) ∧ ¬(plan = [] ∧ away = false ∧ fused = false)) ∧ Kept Y T (c + 5) (N + 5) 1048576 ∧ (Y.lit = false → Y.down = false) ∧ (∀ f, Y.fuse = some f → f.round = 0) := by
  have hK : Kept (turnX X plan away fused call inside) S c N 1048576 := ⟨turnX_okn h.kept.wnd plan hp away fused call inside, h.kept.drv, h.kept.room⟩
  obtain ⟨f1, f2, f3, f4, f5, f6⟩ := turnX_facts X plan away fused call inside
  have hE := awrite_law labN_named labN_ne hK hr h.holds hy
  have hW := awFrom_wnd labN l.bytes 5 0 (turnX X plan away fused call inside, S)
  have hKY := awrite_kept hK labN l.bytes hr
  have e : awFrom labN l.bytes 5 0 (turnX X plan away fused call inside, S) = (Y, T, x) := hy
  rw [e] at hW
  rw [hy] at hKY
  refine ⟨fun hx => ?_, fun hx => ⟨?_, ?_⟩, hKY, fun hlit => ?_, fun f hf => f5 f (hW.1.symm.trans hf)⟩
  · obtain ⟨a, b⟩ := hE.ok hx
    refine ⟨a.mono fun s y hs hy => ⟨fun hsl => .inr ⟨l, by simp, ?_⟩, fun hsl => ?_⟩, b⟩
    · rw [hy, hsl, b]
    · rw [hy]
      exact (h.holds.now s hs).2 hsl ▸ hE.others s hs hsl
  · refine hE.holds.mono fun s y hs hy => ?_
    rcases hy with hy | ⟨rfl, hy⟩
    · refine ⟨fun hsl => ?_, hy.2⟩
      rcases hy.1 hsl with hy | ⟨l', hl', hy⟩
      · exact .inl hy
      · exact .inr ⟨l', List.mem_append_left _ hl', hy⟩
    · exact ⟨fun _ => .inr ⟨l, by simp, hy⟩, fun hn => absurd rfl hn⟩
  · rintro ⟨h1, h2, h3⟩
    refine hx ?_
    have hC : Calm (turnX X plan away fused call inside) := ⟨f1.trans h.down, f3.trans h2, f4.trans h1, f6 h3⟩
    have := calm_writes (X := turnX X plan away fused call inside) ⟨hK, h.holds, f1.trans h.down, h.labs⟩ hC hr l hl
    rw [hy] at this
    exact this
  · rw [hW.2.2 (by rw [← hlit]; exact (lit_of_fuse hW.1).symm)]
    exact f1.trans h.down
/-- The wound behind a turn refuses nothing. -/
theorem turn_calm {Y : Wnd} (lost : Bool) (hd : Y.lit = false → Y.down = false) (hf : ∀ f, Y.fuse = some f → f.round = 0) : Calm (turnZ Y lost) ∧ (Y.lit = false → Calm (turnY Y)) := by
  have hfuse : (turnY Y).fuse = none := by
    show (Y.rest Y.lit).fuse = none
    unfold Wnd.rest
    cases hx : Y.fuse with
    | none => rfl
    | some f => simp only [hf f hx]; rfl
  have hY : Y.lit = false → Calm (turnY Y) := fun hl => ⟨by show (Y.down || Y.lit) = false; rw [hd hl, hl]; rfl, rfl, rfl, hfuse⟩
  refine ⟨?_, hY⟩
  unfold turnZ
  split
  · exact ⟨rfl, rfl, rfl, hfuse⟩
  · rename_i hn
    refine hY ?_
    cases hl : Y.lit with
    | false => rfl
    | true => exact absurd (.inl hl) hn
theorem turnY_okn {Y : Wnd} {k : Nat} (h : Y.Okn k) : (turnY Y).Okn k := ((h.rest Y.lit).away false).arm [] (by decide)
/-- What a label's reading shows. -/
theorem read_shows (S : Drv) : S.read labN = match S.shows labN with | none => ([], 110) | some b => (b, 0) := by
  unfold Drv.read Drv.find Drv.shows
  rw [if_neg (by decide)]
  cases hg : dget S.now labN <;> rfl
end Go.Proofs.YtdiaihpilniikaaGreat
