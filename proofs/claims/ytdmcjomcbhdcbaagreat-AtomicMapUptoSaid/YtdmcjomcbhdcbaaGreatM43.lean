/- The book in the memory; has and place, walked.; The place of a name in the book, walked.; The book turned: wrote, took, settled, walked. -/
import Derived.Test.YtdmcjomcbhdcbaaGreatM42
import Derived.Test.YtdmcjomcbhdcbaaGreatM40
import Derived.BigQuiet
namespace Go.Proofs.YtdmcjomcbhdcbaaGreat
open Go.RowKit Go.Maps

def mayCells (m : May) (v : Value) : List Value := [strV m.name, .bool m.absent, v]
def bookCells (b : Book) (vals : List Value) : List Value := (b.zip vals).flatMap fun x => mayCells x.1 x.2
theorem bookCells_snoc (b : Book) (vals : List Value) (m : May) (u : Value) (h : vals.length = b.length) : bookCells (b ++ [m]) (vals ++ [u]) = bookCells b vals ++ mayCells m u := by
  unfold bookCells
  rw [List.zip_append h.symm]; simp
theorem bookCells_get : ∀ (b : Book) (vals : List Value) {k : Nat} {m : May} {u : Value}, b[k]? = some m → vals[k]? = some u → ∀ i, i < 3 → (bookCells b vals)[k * 3 + i]? = (mayCells m u)[i]?
  | [], _, _, _, _, h, _, _, _ => by simp at h
  | _ :: _, [], _, _, _, _, h, _, _ => by simp at h
  | a :: b, v :: vals, k, m, u, h1, h2, i, hi => by
    have e : bookCells (a :: b) (v :: vals) = mayCells a v ++ bookCells b vals := rfl
    rw [e]
    cases k with
    | zero =>
      simp at h1 h2
      subst h1 h2
      rw [Nat.zero_mul, Nat.zero_add, List.getElem?_append_left (by show i < 3; exact hi)]
    | succ k =>
      rw [List.getElem?_append_right (by show 3 ≤ _; omega)]
      show (bookCells b vals)[(k + 1) * 3 + i - 3]? = _
      rw [show (k + 1) * 3 + i - 3 = k * 3 + i by omega]
      exact bookCells_get b vals (by simpa using h1) (by simpa using h2) i hi
/-- One entry anew. -/
theorem bookCells_set : ∀ (b : Book) (vals : List Value) (k : Nat) (m : May) (u : Value), vals.length = b.length → k < b.length →
    (((bookCells b vals).set (k * 3) (strV m.name)).set (k * 3 + 1) (.bool m.absent)).set (k * 3 + 2) u = bookCells (b.set k m) (vals.set k u)
  | [], _, _, _, _, _, h => by simp at h
  | a :: b, [], _, _, _, h, _ => by simp at h
  | a :: b, v :: vals, k, m, u, h, hk => by
    have e : bookCells (a :: b) (v :: vals) = [strV a.name, .bool a.absent, v] ++ bookCells b vals := rfl
    rw [e]
    cases k with
    | zero => rfl
    | succ k =>
      have ih := bookCells_set b vals k m u (by simpa using h) (by simpa using hk)
      have e2 : bookCells ((a :: b).set (k + 1) m) ((v :: vals).set (k + 1) u) = [strV a.name, .bool a.absent, v] ++ bookCells (b.set k m) (vals.set k u) := rfl
      rw [e2, ← ih, show (k + 1) * 3 = k * 3 + 3 by omega]
      rfl
/-- The book, in memory of its own: all of it in the blocks F. -/
structure BookIn (w : World) (base : Nat) (F : Nat → Prop) (v : Value) (b : Book) (vals : List Value) : Prop where
  len : vals.length = b.length
  row : w.ownsRow base 113 3 v b.length (bookCells b vals)
  each : ∀ (k : Nat) (m : May) (u : Value), b[k]? = some m → vals[k]? = some u → w.ownsRow base 9 1 u m.values.length (m.values.map strV)
  apart : ∀ (i j : Nat) (u u' : Value), i ≠ j → vals[i]? = some u → vals[j]? = some u' → u.ownBlock = none ∨ u.ownBlock ≠ u'.ownBlock
  fv : ∀ k, v.ownBlock = some k → F k
  fu : ∀ (i : Nat) (u : Value) (k : Nat), vals[i]? = some u → u.ownBlock = some k → F k
def BookAt (w : World) (base : Nat) (F : Nat → Prop) (v : Value) (b : Book) : Prop := ∃ vals, BookIn w base F v b vals
theorem BookIn.keep {w w' : World} {base : Nat} {F G : Nat → Prop} {v : Value} {b : Book} {vals : List Value} (h : BookIn w base F v b vals) (ht : Touch G w w') (hG : ∀ k, F k → ¬G k) : BookIn w' base F v b vals where
  len := h.len
  row := ownsRow_keep h.row fun k hk => ht.block k (h.row.lt k hk).2 (hG k (h.fv k hk))
  each k m u hm hu := ownsRow_keep (h.each k m u hm hu) fun i hi => ht.block i ((h.each k m u hm hu).lt i hi).2 (hG i (h.fu k u i hu hi))
  apart := h.apart
  fv := h.fv
  fu := h.fu
theorem BookAt.keep {w w' : World} {base : Nat} {F G : Nat → Prop} {v : Value} {b : Book} (h : BookAt w base F v b) (ht : Touch G w w') (hG : ∀ k, F k → ¬G k) : BookAt w' base F v b := by
  obtain ⟨vals, h⟩ := h; exact ⟨vals, h.keep ht hG⟩
theorem BookAt.below {w w' : World} {base : Nat} {F : Nat → Prop} {v : Value} {b : Book} (h : BookAt w base F v b) (hb : Below w.heap.size w w') : BookAt w' base F v b :=
  h.keep (G := fun _ => False) ⟨hb.os, hb.tape, hb.output, hb.size, fun k hk _ => hb.block k hk⟩ fun _ _ h => h
theorem BookAt.mono {w : World} {base : Nat} {F G : Nat → Prop} {v : Value} {b : Book} (h : BookAt w base F v b) (hG : ∀ k, F k → G k) : BookAt w base G v b := by
  obtain ⟨vals, h⟩ := h
  exact ⟨vals, h.len, h.row, h.each, h.apart, fun k hk => hG k (h.fv k hk), fun i u k hu hk => hG k (h.fu i u k hu hk)⟩
theorem BookAt.nil (w : World) (base : Nat) (F : Nat → Prop) : BookAt w base F (.slice none 0 0) [] :=
  ⟨[], rfl, World.ownsRow_nil _ _ _ _, fun k m u h => by simp at h, fun i j u u' _ h => by simp at h, fun k h => by simp [Value.ownBlock] at h, fun i u k h => by simp at h⟩
theorem BookAt.shape {w : World} {base : Nat} {F : Nat → Prop} {v : Value} {b : Book} (h : BookAt w base F v b) : ∃ a c, v = .slice a b.length c ∧ b.length ≤ c := by
  obtain ⟨vals, h⟩ := h; exact own_shape h.row
/-- An entry, read. -/
theorem BookIn.at_ {w : World} {base : Nat} {F : Nat → Prop} {a : Option Addr} {n c : Nat} {b : Book} {vals : List Value} (h : BookIn w base F (.slice a n c) b vals) (hn : n = b.length) {k : Nat} {m : May} (hm : b[k]? = some m) :
    ∃ g x d, a = some ⟨g, 0, none⟩ ∧ F g ∧ g < w.heap.size ∧ (∀ i, w.frozen? ⟨g, i, none⟩ = false) ∧ vals[k]? = some (.slice x m.values.length d) ∧ m.values.length ≤ d ∧ w.cell? ⟨g, k * 3, none⟩ = some (strV m.name) ∧ w.cell? ⟨g, k * 3 + 1, none⟩ = some (.bool m.absent) ∧ w.cell? ⟨g, k * 3 + 2, none⟩ = some (.slice x m.values.length d) ∧
      w.ownsRow base 9 1 (.slice x m.values.length d) m.values.length (m.values.map strV) := by
  have hk : k < b.length := (List.getElem?_eq_some_iff.1 hm).1
  obtain ⟨u, hu⟩ : ∃ u, vals[k]? = some u := ⟨_, List.getElem?_eq_getElem (by rw [h.len]; exact hk)⟩
  have ho := h.each k m u hm hu
  obtain ⟨x, d, rfl, hd⟩ := own_shape ho
  obtain ⟨g, cap, hv, hbg, hgl⟩ := h.row.form (by omega)
  injection hv with hv _ _
  subst hv
  have hc := h.row.cells (g := g) rfl
  have hcc := bookCells_get b vals hm hu
  have e0 := hc (k * 3) (strV m.name) (by have := hcc 0 (by omega); rw [Nat.add_zero] at this; rw [this]; rfl)
  have e1 := hc (k * 3 + 1) (.bool m.absent) (by rw [hcc 1 (by omega)]; rfl)
  have e2 := hc (k * 3 + 2) (.slice x m.values.length d) (by rw [hcc 2 (by omega)]; rfl)
  rw [add_plain] at e0 e1 e2
  simp only [Nat.zero_add] at e0 e1 e2
  have hfz : ∀ i, w.frozen? ⟨g, i, none⟩ = false := by
    rcases h.row.2 with ⟨e, _⟩ | ⟨g', cap', cur, e, _, hgg, _⟩
    · cases e
    · injection e with e _ _
      injection e with e
      injection e with e
      subst e
      exact Blk.frozen (show Blk w g 113 cur from hgg)
  exact ⟨g, x, d, rfl, h.fv g rfl, hgl, hfz, hu, hd, e0, e1, e2, ho⟩

theorem mayInfo : (Tryz.prog.info? 113).map (fun i => (i.zero, i.size, i.bytes)) = some (some (.agg #[.string ⟨#[]⟩, .bool false, .slice none 0 0]), 3, 48) := by kernel_rfl

set_option maxRecDepth 100000 in
set_option maxHeartbeats 1000000 in
/-- Is a text among texts? -/
theorem has_any (l : List (List UInt8)) (A : Option Addr) (n c : Nat) (hn : n = l.length) (hl : n ≤ 1099511627776) (d : List UInt8) (w : World) (hr : Reads w w.heap.size 1 A n (l.map strV)) :
    Calls Tryz.prog 50 #[.slice A n c, .string ⟨d.toArray⟩] w fun e w' => e = .returned (.bool (l.contains d)) ∧ w = w' := by
  have HR := Lib.hid hr
  have HN := Lib.hid hn
  clear hr hn
  obtain ⟨r, hres⟩ : ∃ r, r = l.contains d := ⟨_, rfl⟩
  rw [← hres]
  have HRES := Lib.hid hres
  clear hres
  go_enter Tryz.func50, Tryz.ntmps50
  go_wp2
  go_loopw [5] (fun s5 wr => ∃ j : Nat, j ≤ n ∧ s5 = .int .i64 j ∧ wr = w ∧ (∀ i x, i < j → l[i]? = some x → x ≠ d)) (fun s5 _ => n - (intOf s5).toNat)
  case atStart => exact ⟨0, Nat.zero_le _, rfl, rfl, fun i x h => absurd h (Nat.not_lt_zero _)⟩
  case round =>
    obtain ⟨j, hj, rfl, rfl, hno⟩ := hrel
    have HNO := Lib.hid hno
    clear hno
    by_cases hlt : j < n
    · obtain ⟨s, hs⟩ : ∃ s, l[j]? = some s := ⟨_, List.getElem?_eq_getElem (by rw [← HN.out]; exact hlt)⟩
      obtain ⟨ad, u, rfl, _, hu, hcu⟩ := HR.out.at_ (k := j) hlt
      have hus : u = strV s := by rw [List.getElem?_map, hs] at hu; exact (Option.some.inj hu).symm
      subst hus
      simp only [strV] at hcu
      have i0 : (0 : Int) ≤ (j : Int) := by omega
      have i1 : (j : Int) < (n : Int) := by omega
      by_cases e : s = d
      · have hc : r = true := by rw [HRES.out, ← e]; simpa using List.mem_of_getElem? hs
        subst hc
        have e1 : (s == d) = true := by rw [beq_iff_eq]; exact e
        clear hs hu e
        go_wp2
        go_ret
        exact ⟨rfl, rfl⟩
      · have e1 : (s == d) = false := by rw [beq_eq_false_iff_ne]; exact e
        have HST : Hid (∀ i x, i < j + 1 → l[i]? = some x → x ≠ d) := Lib.hid fun i x hi hx => by
          rcases Nat.lt_or_ge i j with h | h
          · exact HNO.out i x h hx
          · have : i = j := by omega
            subst this
            rw [hs] at hx; injection hx with hx; subst hx; exact e
        clear hs hu e
        go_wp2
        exact ⟨⟨j + 1, by omega, by go_num, by first | rfl | trivial, HST.out⟩, by simp only [intOf]; omega⟩
    · have hjn : j = n := by omega
      have hc : r = false := by
        rw [HRES.out]
        cases h : l.contains d with
        | false => rfl
        | true =>
          have hm : d ∈ l := by simpa using h
          obtain ⟨i, hi⟩ := List.getElem?_of_mem hm
          have hil := (List.getElem?_eq_some_iff.1 hi).1
          exact absurd rfl (HNO.out i d (by rw [hjn, HN.out]; exact hil) hi)
      subst hc
      go_wp2
      go_ret
      exact ⟨rfl, rfl⟩
end Go.Proofs.YtdmcjomcbhdcbaaGreat
namespace Go.Proofs.YtdmcjomcbhdcbaaGreat
open Go.RowKit Go.Maps

theorem Book.idx_eq : ∀ (b : Book) (s : Nm) (k : Nat) (m : May), b[k]? = some m → m.name = s → (∀ (j : Nat) (m' : May), j < k → b[j]? = some m' → m'.name ≠ s) → Book.idx b s = k
  | [], _, _, _, h, _, _ => by simp at h
  | a :: b, s, k, m, h, hm, hno => by
    unfold Book.idx
    cases k with
    | zero => simp at h; subst h; rw [if_pos hm]
    | succ k =>
      have h0 : a.name ≠ s := hno 0 a (by omega) rfl
      rw [if_neg h0, Book.idx_eq b s k m (by simpa using h) hm fun j m' hj hj' => hno (j + 1) m' (by omega) (by simpa using hj')]
theorem Book.idx_none : ∀ (b : Book) (s : Nm), (∀ (j : Nat) (m' : May), b[j]? = some m' → m'.name ≠ s) → Book.idx b s = b.length
  | [], _, _ => rfl
  | a :: b, s, hno => by
    unfold Book.idx
    have h0 : a.name ≠ s := hno 0 a rfl
    rw [if_neg h0, Book.idx_none b s fun j m' hj' => hno (j + 1) m' (by simpa using hj')]; rfl
/-- A block of its own that grows keeps all others. -/
theorem grown_touch {w w1 w3 : World} {F : Nat → Prop} {row : Option Nat} (hb : Below w.heap.size w w1) (hg : w1.grownBy w3 row) (hF : ∀ k, row = some k → F k) : Touch F w w3 where
  os := hg.os.trans hb.os
  tape := hg.tape.trans hb.tape
  output := hg.output.trans hb.output
  size := Nat.le_trans hb.size hg.size
  block k hk hn := (hg.block k (Nat.lt_of_lt_of_le hk hb.size) fun e => hn (hF k e.symm)).trans (hb.block k hk)

/-- One entry more. -/
theorem BookIn.snoc {w w1 w3 : World} {base : Nat} {F : Nat → Prop} {v v3 : Value} {b : Book} {vals : List Value} (h : BookIn w base F v b vals) (m : May) (u : Value) (hb : Below w.heap.size w w1) (hg : w1.grownBy w3 v.ownBlock)
    (ho : w3.ownsRow base 113 3 v3 (b.length + 1) (bookCells b vals ++ mayCells m u)) (hat : v3.ownBlock = v.ownBlock ∨ v3.ownBlock = some w1.heap.size)
    (hu : w1.ownsRow base 9 1 u m.values.length (m.values.map strV)) (hfr : ∀ k, u.ownBlock = some k → w.heap.size ≤ k) : BookIn w3 base (grow F w w3) v3 (b ++ [m]) (vals ++ [u]) := by
  have hrow1 := ownsRow_below h.row hb
  have keep : ∀ {x : Value} {n : Nat} {xs : List Value}, w1.ownsRow base 9 1 x n xs → w3.ownsRow base 9 1 x n xs := fun hx => hx.kept hg (own_ne hx hrow1 (by decide))
  refine ⟨by simp [h.len], ?_, fun k m' u' hm hu' => ?_, fun i j x x' hij hx hx' => ?_, fun k hk => ?_, fun i x k hx hk => ?_⟩
  · rw [bookCells_snoc b vals m u h.len, List.length_append]
    exact ho
  · rcases Nat.lt_trichotomy k b.length with hkl | hkl | hkl
    · rw [List.getElem?_append_left hkl] at hm
      rw [List.getElem?_append_left (by rw [h.len]; exact hkl)] at hu'
      exact keep (ownsRow_below (h.each k m' u' hm hu') hb)
    · subst hkl
      rw [List.getElem?_append_right (Nat.le_refl _)] at hm
      rw [← h.len, List.getElem?_append_right (Nat.le_refl _)] at hu'
      simp at hm hu'
      subst hm hu'
      exact keep hu
    · rw [List.getElem?_eq_none (by simp; omega)] at hm; cases hm
  · have old : ∀ {i : Nat} {x : Value}, (vals ++ [u])[i]? = some x → (i < vals.length ∧ vals[i]? = some x) ∨ (i = vals.length ∧ x = u) := fun {i x} hx => by
      rcases Nat.lt_trichotomy i vals.length with hil | hil | hil
      · rw [List.getElem?_append_left hil] at hx; exact .inl ⟨hil, hx⟩
      · subst hil
        rw [List.getElem?_append_right (Nat.le_refl _)] at hx
        simp at hx
        exact .inr ⟨rfl, hx.symm⟩
      · rw [List.getElem?_eq_none (by simp; omega)] at hx; cases hx
    have low : ∀ {i : Nat} {x : Value} {k : Nat}, vals[i]? = some x → x.ownBlock = some k → k < w.heap.size := fun {i x k} hx hk => by
      have hil : i < b.length := by rw [← h.len]; exact (List.getElem?_eq_some_iff.1 hx).1
      exact ((h.each i _ x (List.getElem?_eq_getElem hil) hx).lt k hk).2
    rcases old hx with ⟨_, hy⟩ | ⟨hi, rfl⟩
    · rcases old hx' with ⟨_, hy'⟩ | ⟨_, rfl⟩
      · exact h.apart i j x x' hij hy hy'
      · cases e : x.ownBlock with
        | none => exact .inl rfl
        | some k =>
          refine .inr fun e2 => ?_
          have h1 := low hy e
          have h2 := hfr k e2.symm
          omega
    · rcases old hx' with ⟨_, hy'⟩ | ⟨hj, _⟩
      · cases e : x.ownBlock with
        | none => exact .inl rfl
        | some k =>
          refine .inr fun e2 => ?_
          have h1 := low hy' e2.symm
          have h2 := hfr k e
          omega
      · exact absurd (hi.trans hj.symm) hij
  · rcases hat with e | e
    · exact .inl (h.fv k (by rw [← e]; exact hk))
    · rw [e] at hk
      injection hk with hk
      have h1 := (ho.lt k (by rw [e, hk])).2
      have h2 := hb.size
      exact .inr ⟨by omega, h1⟩
  · rcases Nat.lt_trichotomy i vals.length with hil | hil | hil
    · rw [List.getElem?_append_left hil] at hx
      exact .inl (h.fu i x k hx hk)
    · subst hil
      rw [List.getElem?_append_right (Nat.le_refl _)] at hx
      simp at hx
      subst hx
      exact .inr ⟨hfr k hk, ((keep hu).lt k hk).2⟩
    · rw [List.getElem?_eq_none (by simp; omega)] at hx; cases hx

set_option maxRecDepth 100000 in
set_option maxHeartbeats 2000000 in
theorem place_any (b : Book) (base : Nat) (F : Nat → Prop) (A : Option Addr) (n c : Nat) (hn : n = b.length) (s : Nm) (w : World) (h : BookAt w base F (.slice A n c) b) (hbase : base ≤ w.heap.size) (hl : n ≤ 4294967296) :
    Calls Tryz.prog 49 #[.slice A n c, .string ⟨s.toArray⟩] w fun e w' => ∃ v', e = .returned (.tuple #[v', .int .i64 (Book.idx b s : Nat)]) ∧ BookAt w' base (grow F w w') v' (Book.place b s) ∧ Touch F w w' := by
  have H := Lib.hid h
  have HN := Lib.hid hn
  have HBS := Lib.hid hbase
  obtain ⟨iM, hiM, hz0, hz1, hz2⟩ := info_parts mayInfo
  obtain ⟨ix, hix0⟩ : ∃ ix, ix = Book.idx b s := ⟨_, rfl⟩
  obtain ⟨pl, hpl0⟩ : ∃ pl, pl = Book.place b s := ⟨_, rfl⟩
  rw [← hix0, ← hpl0]
  have HIX := Lib.hid hix0
  have HPL := Lib.hid hpl0
  clear h hn hbase hix0 hpl0
  go_enter Tryz.func49, Tryz.ntmps49
  go_wp2
  go_loopw [6] (fun s6 wr => ∃ j : Nat, j ≤ n ∧ s6 = .int .i64 j ∧ wr = w ∧ Hid (∀ (i : Nat) (m : May), i < j → b[i]? = some m → m.name ≠ s)) (fun s6 _ => n - (intOf s6).toNat)
  case atStart => exact ⟨0, Nat.zero_le _, rfl, rfl, Lib.hid fun i m h => absurd h (Nat.not_lt_zero _)⟩
  case round =>
    obtain ⟨j, hj, rfl, rfl, HNO⟩ := hrel
    by_cases hlt : j < n
    · obtain ⟨m, hm⟩ : ∃ m, b[j]? = some m := ⟨_, List.getElem?_eq_getElem (by rw [← HN.out]; exact hlt)⟩
      obtain ⟨vals, hB⟩ := H.out
      obtain ⟨g, x, d, rfl, _, _, _, _, _, y0, y1, y2, _⟩ := hB.at_ HN.out hm
      have HM := Lib.hid hm
      have HB := Lib.hid hB
      simp only [strV] at y0
      have i0 : (0 : Int) ≤ (j : Int) := by omega
      have i1 : (j : Int) < (n : Int) := by omega
      obtain ⟨nmj, hnmj⟩ : ∃ x, x = m.name := ⟨_, rfl⟩
      rw [← hnmj] at y0
      have HNJ := Lib.hid hnmj
      clear hm hB y1 y2 hnmj
      by_cases e : nmj = s
      · have e1 : (nmj == s) = true := by rw [beq_iff_eq]; exact e
        have hix : Book.idx b s = j := Book.idx_eq b s j m HM.out (by rw [← HNJ.out]; exact e) HNO.out
        have hpl : Book.place b s = b := by
          unfold Book.place
          rw [if_pos (by rw [hix, ← HN.out]; exact hlt)]
        have hix2 : j = ix := (HIX.out.trans hix).symm
        have hpl2 : b = pl := (HPL.out.trans hpl).symm
        subst hix2 hpl2
        clear e hix hpl
        go_wp2
        exact bodyPost_ret (v := .tuple #[.slice (some ⟨g, 0, none⟩) n c, .int .i64 (j : Nat)]) (by simp only [results, Tryz.results49]; go_simp) rfl ⟨_, rfl, (H.out).mono (fun k hk => .inl hk), Touch.refl _ _⟩
      · have e1 : (nmj == s) = false := by rw [beq_eq_false_iff_ne]; exact e
        have HST : Hid (∀ (i : Nat) (m : May), i < j + 1 → b[i]? = some m → m.name ≠ s) := Lib.hid fun i m' hi hx => by
          rcases Nat.lt_or_ge i j with h | h
          · exact HNO.out i m' h hx
          · have : i = j := by omega
            subst this
            rw [HM.out] at hx; injection hx with hx; subst hx
            rw [← HNJ.out]; exact e
        clear e
        go_wp2
        exact ⟨⟨j + 1, by omega, by go_num, by first | rfl | trivial, HST⟩, by simp only [intOf]; omega⟩
    · have hjn : j = n := by omega
      have hix : Book.idx b s = n := by
        rw [HN.out]
        exact Book.idx_none b s fun i m hi => HNO.out i m (by have := (List.getElem?_eq_some_iff.1 hi).1; rw [← HN.out] at this; omega) hi
      have hpl : Book.place b s = b ++ [⟨s, true, []⟩] := by
        unfold Book.place
        rw [if_neg (by rw [hix, ← HN.out]; exact Nat.lt_irrefl _)]
      have hix2 : j = ix := ((HIX.out.trans hix).trans hjn.symm).symm
      have hpl2 : pl = b ++ [⟨s, true, []⟩] := HPL.out.trans hpl
      subst hix2 hjn
      obtain ⟨vals, hB⟩ := H.out
      have HPL2 := Lib.hid hpl2
      have HB := Lib.hid hB
      have hrow := hB.row
      rw [← HN.out] at hrow
      have HROW := Lib.hid hrow
      clear hB hrow hix hpl hpl2
      go_wp2_with (at_builtin; go_must (refine wpList_append_any _ (by rfl) (.tmp 22) (.tmp 25) 55 (by rfl) base 113 iM _ 3 48 Tryz.underlying55 hiM hz0 hz1 hz2 rfl (by omega) _ j _ (by rfl) (HROW.out.alloc _) (wr.heap.size + 1) (some ⟨wr.heap.size, 0, none⟩) 1 1 [.string ⟨s.toArray⟩, .bool true, .slice none 0 0] (by rfl) (by exact reads_blk (t := 113) (blk_last _ _ _ _ rfl) (by omega) rfl) (by intro u hu; simp at hu; rcases hu with rfl | rfl | rfl <;> rfl) (by simp only [maxLen]; omega) (by omega) (by rw [alloc_size]; have := HBS.out; omega) ?_); intro v3 w3 hown3 hg3 hat3; obtain ⟨a4, c4, rfl, _⟩ := own_shape hown3; have HOWN3 := Lib.hid hown3; have HG3 : Hid ((wr.alloc (.cells #[.string ⟨s.toArray⟩, .bool true, .slice none 0 0] 113)).grownBy w3 (Value.slice A j c).ownBlock) := Lib.hid hg3; have HAT3 := Lib.hid hat3; clear hown3 hg3 hat3)
      have hbw : Below wr.heap.size wr (wr.alloc (.cells #[.string ⟨s.toArray⟩, .bool true, .slice none 0 0] 113)) := (Below.refl _ _).alloc (Nat.le_refl _) _
      have hsn := HB.out.snoc ⟨s, true, []⟩ (.slice none 0 0) hbw HG3.out (by rw [← HN.out]; exact HOWN3.out) HAT3.out (World.ownsRow_nil _ _ _ _) (fun k hk => by simp [Value.ownBlock] at hk)
      have htt : Touch F wr w3 := grown_touch hbw HG3.out fun k hk => HB.out.fv k hk
      have HE := Lib.hid (And.intro (show BookAt w3 base (grow F wr w3) (.slice a4 (j + 1) c4) pl from by rw [HPL2.out]; exact ⟨_, hsn⟩) htt)
      clear hbw hsn htt
      go_wp2
      exact bodyPost_ret (v := .tuple #[.slice a4 (j + 1) c4, .int .i64 (j : Nat)]) (by simp only [results, Tryz.results49]; go_simp) rfl ⟨_, rfl, HE.out.1, HE.out.2⟩
end Go.Proofs.YtdmcjomcbhdcbaaGreat
namespace Go.Proofs.YtdmcjomcbhdcbaaGreat
open Go.RowKit Go.Maps

theorem own_setN {w : World} {base size n g c j : Nat} {e : TypeId} {xs : List Value} (h : w.ownsRow base e size (.slice (some ⟨g, 0, none⟩) n c) n xs) (u : Value) :
    (w.setCell ⟨g, j, none⟩ u).ownsRow base e size (.slice (some ⟨g, 0, none⟩) n c) n (xs.set j u) := by
  obtain ⟨h1, h2⟩ := h
  rcases h2 with ⟨h3, _⟩ | ⟨g', cap, cur, h3, h4, h5, h6, h7, h8, h9⟩
  · cases h3
  · injection h3 with e1 _ e3
    injection e1 with e1
    injection e1 with e1
    subst e1 e3
    have hb : Blk w g e cur := h5
    refine ⟨by rw [List.length_set]; exact h1, .inr ⟨g, c, _, rfl, h4, hb.set_ j u, h6, h7, ?_, ?_⟩⟩
    · simp; omega
    · simp only [Array.toList_setIfInBounds]
      rw [List.take_set, h9]
theorem own_fresh (w : World) (base : Nat) (e : TypeId) (u : Value) (hb : base ≤ w.heap.size) : (w.alloc (.cells #[u] e)).ownsRow base e 1 (.slice (some ⟨w.heap.size, 0, none⟩) 1 1) 1 [u] :=
  ⟨rfl, .inr ⟨w.heap.size, 1, #[u], rfl, hb, heap_alloc_new w _, Nat.le_refl _, by simp [maxLen], rfl, rfl⟩⟩
/-- One entry of the book anew. -/
theorem BookIn.turn {w W : World} {base : Nat} {F G : Nat → Prop} {v : Value} {b : Book} {vals : List Value} (h : BookIn w base F v b vals) {k : Nat} (m' : May) (u' : Value)
    (hrow : W.ownsRow base 113 3 v b.length (bookCells (b.set k m') (vals.set k u')))
    (hoth : ∀ (j : Nat) (x : Value) (i : Nat), j ≠ k → vals[j]? = some x → x.ownBlock = some i → W.heap[i]? = w.heap[i]?)
    (hu : W.ownsRow base 9 1 u' m'.values.length (m'.values.map strV))
    (hap : ∀ (j : Nat) (x : Value), j ≠ k → vals[j]? = some x → x.ownBlock = none ∨ x.ownBlock ≠ u'.ownBlock)
    (hF : ∀ i, u'.ownBlock = some i → G i) (hFG : ∀ i, F i → G i) : BookIn W base G v (b.set k m') (vals.set k u') := by
  have old : ∀ {j : Nat} {x : Value}, (vals.set k u')[j]? = some x → (j ≠ k ∧ vals[j]? = some x) ∨ (j = k ∧ x = u') := fun {j x} hx => by
    by_cases e : k = j
    · subst e
      rw [List.getElem?_set] at hx
      rw [if_pos rfl] at hx
      split at hx
      · injection hx with hx; exact .inr ⟨rfl, hx.symm⟩
      · cases hx
    · rw [List.getElem?_set_ne e] at hx
      exact .inl ⟨fun e2 => e e2.symm, hx⟩
  refine ⟨by rw [List.length_set, List.length_set]; exact h.len, by rw [List.length_set]; exact hrow, fun j m x hm hx => ?_, fun i j x x' hij hx hx' => ?_, fun i hi => hFG i (h.fv i hi), fun j x i hx hi => ?_⟩
  · rcases old hx with ⟨hj, hx⟩ | ⟨rfl, rfl⟩
    · rw [List.getElem?_set_ne (Ne.symm hj)] at hm
      exact ownsRow_keep (h.each j m x hm hx) fun i hi => hoth j x i hj hx hi
    · rw [List.getElem?_set] at hm
      rw [if_pos rfl] at hm
      split at hm
      · injection hm with hm; subst hm; exact hu
      · cases hm
  · rcases old hx with ⟨hi, hy⟩ | ⟨hi, e⟩
    · rcases old hx' with ⟨hj, hy'⟩ | ⟨hj, e'⟩
      · exact h.apart i j x x' hij hy hy'
      · subst e'; exact hap i x hi hy
    · rcases old hx' with ⟨hj, hy'⟩ | ⟨hj, _⟩
      · subst e
        rcases hap j x' hj hy' with e2 | e2
        · cases e3 : x.ownBlock with
          | none => exact .inl rfl
          | some a => exact .inr (by rw [e2]; exact fun e4 => by cases e4)
        · exact .inr (Ne.symm e2)
      · exact absurd (hi.trans hj.symm) hij
  · rcases old hx with ⟨_, hx⟩ | ⟨_, e⟩
    · exact hFG i (h.fu j x i hx hi)
    · subst e; exact hF i hi
theorem own_block_ne {w : World} {b1 b2 e1 e2 s1 s2 n1 n2 g : Nat} {v1 v2 : Value} {x1 x2 : List Value} (h1 : w.ownsRow b1 e1 s1 v1 n1 x1) (h2 : w.ownsRow b2 e2 s2 v2 n2 x2) (hne : e1 ≠ e2) (hg : v2.ownBlock = some g) {i : Nat} (hi : v1.ownBlock = some i) : i ≠ g := fun e => by
  rcases own_ne h1 h2 hne with h | h
  · rw [h] at hi; cases hi
  · exact h (by rw [hi, hg, e])
/-- A whole entry laid into the book's row. -/
theorem BookIn.lay {w w1 : World} {base g n c : Nat} {F : Nat → Prop} {b : Book} {vals : List Value} (h : BookIn w base F (.slice (some ⟨g, 0, none⟩) n c) b vals) (hn : n = b.length) {k : Nat} (hk : k < b.length) (m' : May) (u' : Value) (hb : Below w.heap.size w w1)
    (hu : w1.ownsRow base 9 1 u' m'.values.length (m'.values.map strV)) (hap : ∀ (j : Nat) (x : Value), j ≠ k → vals[j]? = some x → x.ownBlock = none ∨ x.ownBlock ≠ u'.ownBlock) (hF : ∀ i, u'.ownBlock = some i → F i ∨ (w.heap.size ≤ i ∧ i < w1.heap.size)) :
    BookIn (((w1.setCell ⟨g, k * 3, none⟩ (strV m'.name)).setCell ⟨g, k * 3 + 1, none⟩ (.bool m'.absent)).setCell ⟨g, k * 3 + 2, none⟩ u') base (grow F w w1) (.slice (some ⟨g, 0, none⟩) n c) (b.set k m') (vals.set k u') ∧
      Touch F w (((w1.setCell ⟨g, k * 3, none⟩ (strV m'.name)).setCell ⟨g, k * 3 + 1, none⟩ (.bool m'.absent)).setCell ⟨g, k * 3 + 2, none⟩ u') := by
  have hrow1 := ownsRow_below h.row hb
  have hFg : F g := h.fv g rfl
  have hst : ∀ i, i ≠ g → (((w1.setCell ⟨g, k * 3, none⟩ (strV m'.name)).setCell ⟨g, k * 3 + 1, none⟩ (.bool m'.absent)).setCell ⟨g, k * 3 + 2, none⟩ u').heap[i]? = w1.heap[i]? := fun i hi => by
    rw [Below.heap_setCell _ ⟨g, k * 3 + 2, none⟩ _ i hi, Below.heap_setCell _ ⟨g, k * 3 + 1, none⟩ _ i hi, Below.heap_setCell _ ⟨g, k * 3, none⟩ _ i hi]
  subst hn
  refine ⟨h.turn m' u' ?_ (fun j x i hj hx hi => ?_) ?_ hap hF (fun i hi => .inl hi), ?_⟩
  · rw [← bookCells_set b vals k m' u' h.len hk]
    exact own_setN (own_setN (own_setN hrow1 _) _) _
  · have hjl : j < b.length := by rw [← h.len]; exact (List.getElem?_eq_some_iff.1 hx).1
    have ho := h.each j _ x (List.getElem?_eq_getElem hjl) hx
    rw [hst i (own_block_ne ho h.row (by decide) rfl hi)]
    exact hb.block i (ho.lt i hi).2
  · exact ownsRow_keep hu fun i hi => hst i (own_block_ne hu hrow1 (by decide) rfl hi)
  · exact ⟨hb.os, hb.tape, hb.output, by simpa using hb.size, fun i hi hn => (hst i (fun e => hn (by rw [e]; exact hFg))).trans (hb.block i hi)⟩

theorem grow_le {F : Nat → Prop} {w w1 w2 W : World} (h1 : w1.heap.size ≤ w2.heap.size) (h2 : w2.heap.size ≤ W.heap.size) (h0 : w.heap.size ≤ w1.heap.size) : ∀ k, grow (grow F w w1) w1 w2 k → grow F w W k := fun k hk => by
  rcases hk with (hk | hk) | hk
  · exact .inl hk
  · exact .inr ⟨hk.1, by omega⟩
  · exact .inr ⟨by omega, by omega⟩
/-- A cell of the row stays where another is set. -/
theorem own_cell_ne {w : World} {base size g n c i j : Nat} {e : TypeId} {xs : List Value} (h : w.ownsRow base e size (.slice (some ⟨g, 0, none⟩) n c) n xs) (u : Value) (hij : i ≠ j) : (w.setCell ⟨g, j, none⟩ u).cell? ⟨g, i, none⟩ = w.cell? ⟨g, i, none⟩ := by
  rcases h.2 with ⟨h3, _⟩ | ⟨g', cap, cur, h3, h4, h5, _⟩
  · cases h3
  · injection h3 with e1 _ _
    injection e1 with e1
    injection e1 with e1
    subst e1
    have hb : Blk w g e cur := h5
    rw [(hb.set_ j u).cell i, hb.cell i]
    simp [Ne.symm hij]
/-- What is behind a turning of one entry. -/
theorem BookIn.laid {w w0 w1 W : World} {base g n c : Nat} {F : Nat → Prop} {b : Book} {vals : List Value} (h : BookIn w0 base (grow F w w0) (.slice (some ⟨g, 0, none⟩) n c) b vals) (ht : Touch F w w0) (hn : n = b.length) {k : Nat} (hk : k < b.length) (m' : May) (u' : Value) (hb : Below w0.heap.size w0 w1)
    (hu : w1.ownsRow base 9 1 u' m'.values.length (m'.values.map strV)) (hap : ∀ (j : Nat) (x : Value), j ≠ k → vals[j]? = some x → x.ownBlock = none ∨ x.ownBlock ≠ u'.ownBlock) (hF : ∀ i, u'.ownBlock = some i → grow F w w0 i ∨ (w0.heap.size ≤ i ∧ i < w1.heap.size))
    (hW : W = ((w1.setCell ⟨g, k * 3, none⟩ (strV m'.name)).setCell ⟨g, k * 3 + 1, none⟩ (.bool m'.absent)).setCell ⟨g, k * 3 + 2, none⟩ u') : BookAt W base (grow F w W) (.slice (some ⟨g, 0, none⟩) n c) (b.set k m') ∧ Touch F w W := by
  have h1 := h.lay hn hk m' u' hb hu hap hF
  rw [← hW] at h1
  have hs : W.heap.size = w1.heap.size := by rw [hW]; simp
  have h2 : BookAt W base (grow (grow F w w0) w0 w1) (.slice (some ⟨g, 0, none⟩) n c) (b.set k m') := ⟨_, h1.1⟩
  exact ⟨h2.mono (grow_le hb.size (by omega) ht.size), ht.trans h1.2⟩

/-- The same, where the entry's own texts may have grown in their place. -/
theorem BookIn.laid2 {w w0 w3 W : World} {base g n c : Nat} {F : Nat → Prop} {b : Book} {vals : List Value} (h : BookIn w0 base (grow F w w0) (.slice (some ⟨g, 0, none⟩) n c) b vals) (ht : Touch F w w0) (hn : n = b.length) {k : Nat} (hk : k < b.length) (m' : May) (u' : Value) (ht3 : Touch (grow F w w0) w0 w3)
    (hrow3 : w3.ownsRow base 113 3 (.slice (some ⟨g, 0, none⟩) n c) b.length (bookCells b vals))
    (hoth : ∀ (j : Nat) (x : Value) (i : Nat), j ≠ k → vals[j]? = some x → x.ownBlock = some i → w3.heap[i]? = w0.heap[i]?)
    (hu : w3.ownsRow base 9 1 u' m'.values.length (m'.values.map strV)) (hap : ∀ (j : Nat) (x : Value), j ≠ k → vals[j]? = some x → x.ownBlock = none ∨ x.ownBlock ≠ u'.ownBlock) (hF : ∀ i, u'.ownBlock = some i → grow F w w0 i ∨ (w0.heap.size ≤ i ∧ i < w3.heap.size))
    (hW : W = ((w3.setCell ⟨g, k * 3, none⟩ (strV m'.name)).setCell ⟨g, k * 3 + 1, none⟩ (.bool m'.absent)).setCell ⟨g, k * 3 + 2, none⟩ u') : BookAt W base (grow F w W) (.slice (some ⟨g, 0, none⟩) n c) (b.set k m') ∧ Touch F w W := by
  have hFg : grow F w w0 g := h.fv g rfl
  have hst : ∀ i, i ≠ g → W.heap[i]? = w3.heap[i]? := fun i hi => by
    rw [hW, Below.heap_setCell _ ⟨g, k * 3 + 2, none⟩ _ i hi, Below.heap_setCell _ ⟨g, k * 3 + 1, none⟩ _ i hi, Below.heap_setCell _ ⟨g, k * 3, none⟩ _ i hi]
  have hs : W.heap.size = w3.heap.size := by rw [hW]; simp
  subst hn
  have hB : BookIn W base (grow (grow F w w0) w0 w3) (.slice (some ⟨g, 0, none⟩) b.length c) (b.set k m') (vals.set k u') := by
    refine h.turn m' u' ?_ (fun j x i hj hx hi => ?_) ?_ hap hF (fun i hi => .inl hi)
    · rw [← bookCells_set b vals k m' u' h.len hk, hW]
      exact own_setN (own_setN (own_setN hrow3 _) _) _
    · have hjl : j < b.length := by rw [← h.len]; exact (List.getElem?_eq_some_iff.1 hx).1
      have ho := h.each j _ x (List.getElem?_eq_getElem hjl) hx
      rw [hst i (own_block_ne ho h.row (by decide) rfl hi)]
      exact hoth j x i hj hx hi
    · exact ownsRow_keep hu fun i hi => hst i (own_block_ne hu hrow3 (by decide) rfl hi)
  have hT : Touch (grow F w w0) w0 W := ⟨by rw [hW]; exact ht3.os, by rw [hW]; exact ht3.tape, by rw [hW]; exact ht3.output, by rw [hs]; exact ht3.size, fun i hi hn => (hst i (fun e => hn (by rw [e]; exact hFg))).trans (ht3.block i hi hn)⟩
  have h2 : BookAt W base (grow (grow F w w0) w0 w3) (.slice (some ⟨g, 0, none⟩) b.length c) (b.set k m') := ⟨_, hB⟩
  exact ⟨h2.mono (grow_le ht3.size (by omega) ht.size), ht.trans hT⟩

set_option maxRecDepth 100000 in
set_option maxHeartbeats 2000000 in
theorem took_any (b : Book) (base : Nat) (F : Nat → Prop) (A : Option Addr) (n c : Nat) (hn : n = b.length) (s : Nm) (done : Bool) (w : World) (h : BookAt w base F (.slice A n c) b) (hbase : base ≤ w.heap.size) (hl : n ≤ 4294967296) :
    Calls Tryz.prog 20 #[.slice A n c, .string ⟨s.toArray⟩, .bool done] w fun e w' => ∃ v', e = .returned v' ∧ BookAt w' base (grow F w w') v' (Book.took b s done) ∧ Touch F w w' := by
  have HP := Lib.hid (place_any b base F A n c hn s w h hbase hl)
  obtain ⟨pe, pn⟩ := Book.ent_at b s
  obtain ⟨ix, hix⟩ : ∃ ix, ix = Book.idx b s := ⟨_, rfl⟩
  obtain ⟨pl, hpl⟩ : ∃ pl, pl = Book.place b s := ⟨_, rfl⟩
  obtain ⟨tk, htk⟩ : ∃ tk, tk = Book.took b s done := ⟨_, rfl⟩
  obtain ⟨en, hen⟩ : ∃ en, en = Book.ent b s := ⟨_, rfl⟩
  rw [← htk]
  unfold Book.took at htk
  rw [← hix, ← hpl] at HP
  rw [← hix, ← hpl, ← hen] at htk pe
  rw [← hen] at pn
  have HPE := Lib.hid pe
  have HPN := Lib.hid pn
  have HTK := Lib.hid htk
  have hpll : pl.length ≤ n + 1 := by
    rw [hpl, hn]; unfold Book.place; split
    · omega
    · simp
  have hixl : ix < pl.length := (List.getElem?_eq_some_iff.1 pe).1
  have hi0 : (0 : Int) ≤ (ix : Int) := by omega
  have hi1 : (ix : Int) < (pl.length : Int) := by omega
  clear pe pn htk h hn hbase hix hpl hen
  go_enter Tryz.func20, Tryz.ntmps20
  cases done with
  | true =>
    have HTK : Hid (tk = pl.set ix ⟨s, true, []⟩) := Lib.hid (HTK.out.trans (if_pos rfl))
    go_wp2_with (go_at_call 49; refine HP.out.mono ?_; rintro e w1 ⟨v1, rfl, hb1, ht1⟩; obtain ⟨vals, hB1⟩ := hb1; obtain ⟨a1, c1, rfl, hc1⟩ := own_shape hB1.row; obtain ⟨g, x, d, rfl, _, hgl, hfz, _, _, y0, y1, y2, _⟩ := hB1.at_ rfl HPE.out; have HB1 := Lib.hid hB1; have HT1 := Lib.hid ht1; clear hB1 ht1)
    refine exit_world fun W hW => ?_
    have HE := Lib.hid (HB1.out.laid HT1.out rfl hixl ⟨s, true, []⟩ (.slice none 0 0) (Below.refl _ _) (World.ownsRow_nil _ _ _ _) (fun j x _ hx => by cases e : x.ownBlock <;> simp [Value.ownBlock]) (fun i hi => by simp [Value.ownBlock] at hi) hW)
    clear hW
    go_ret
    exact ⟨_, rfl, by rw [HTK.out]; exact HE.out.1, HE.out.2⟩
  | false =>
    have HTK : Hid (tk = pl.set ix ⟨en.name, true, en.values⟩) := Lib.hid (HTK.out.trans (if_neg (by decide)))
    go_wp2_with (go_at_call 49; refine HP.out.mono ?_; rintro e w1 ⟨v1, rfl, hb1, ht1⟩; obtain ⟨vals, hB1⟩ := hb1; obtain ⟨a1, c1, rfl, hc1⟩ := own_shape hB1.row; obtain ⟨g, x, d, rfl, _, hgl, hfz, hvx, _, y0, y1, y2, hox⟩ := hB1.at_ rfl HPE.out; have HB1 := Lib.hid hB1; have HT1 := Lib.hid ht1; have HVX := Lib.hid hvx; have HOX := Lib.hid hox; clear hB1 ht1 hvx hox)
    refine exit_world fun W hW => ?_
    have hW2 : W = ((w1.setCell ⟨g, ix * 3, none⟩ (strV en.name)).setCell ⟨g, ix * 3 + 1, none⟩ (.bool true)).setCell ⟨g, ix * 3 + 2, none⟩ (.slice x en.values.length d) := by
      rw [setCell_same y0, setCell_same (by rw [own_cell_ne HB1.out.row _ (by omega)]; exact y2)]
      exact hW
    have HE := Lib.hid (HB1.out.laid HT1.out rfl hixl ⟨en.name, true, en.values⟩ (.slice x en.values.length d) (Below.refl _ _) HOX.out (fun j u hj hu => HB1.out.apart j ix u _ hj hu HVX.out) (fun i hi => .inl (HB1.out.fu ix _ i HVX.out hi)) hW2)
    clear hW hW2
    go_ret
    exact ⟨_, rfl, by rw [HTK.out]; exact HE.out.1, HE.out.2⟩

theorem textInfo : (Tryz.prog.info? 9).map (fun i => (i.zero, i.size, i.bytes)) = some (some (.string ⟨#[]⟩), 1, 16) := by kernel_rfl
set_option maxRecDepth 100000 in
set_option maxHeartbeats 4000000 in
theorem wrote_any (b : Book) (base : Nat) (F : Nat → Prop) (A : Option Addr) (n c : Nat) (hn : n = b.length) (s : Nm) (dt : List UInt8) (done : Bool) (w : World) (h : BookAt w base F (.slice A n c) b) (hbase : base ≤ w.heap.size) (hl : n ≤ 4294967296) (hv : ∀ m ∈ b, m.values.length ≤ 4294967296) :
    Calls Tryz.prog 19 #[.slice A n c, .string ⟨s.toArray⟩, .string ⟨dt.toArray⟩, .bool done] w fun e w' => ∃ v', e = .returned v' ∧ BookAt w' base (grow F w w') v' (Book.wrote b s dt done) ∧ Touch F w w' := by
  have HP := Lib.hid (place_any b base F A n c hn s w h hbase hl)
  obtain ⟨pe, pn⟩ := Book.ent_at b s
  obtain ⟨ix, hix⟩ : ∃ ix, ix = Book.idx b s := ⟨_, rfl⟩
  obtain ⟨pl, hpl⟩ : ∃ pl, pl = Book.place b s := ⟨_, rfl⟩
  obtain ⟨tk, htk⟩ : ∃ tk, tk = Book.wrote b s dt done := ⟨_, rfl⟩
  obtain ⟨en, hen⟩ : ∃ en, en = Book.ent b s := ⟨_, rfl⟩
  rw [← htk]
  unfold Book.wrote at htk
  rw [← hix, ← hpl] at HP
  rw [← hix, ← hpl, ← hen] at htk pe
  rw [← hen] at pn
  have hvl : en.values.length ≤ 4294967296 := by
    have hm := List.mem_of_getElem? pe
    rw [hpl] at hm
    unfold Book.place at hm
    split at hm
    · exact hv _ hm
    · rcases List.mem_append.1 hm with hm | hm
      · exact hv _ hm
      · simp at hm; rw [hm]; simp
  have HPE := Lib.hid pe
  have HPN := Lib.hid pn
  have HBS := Lib.hid hbase
  have hpll : pl.length ≤ n + 1 := by
    rw [hpl, hn]; unfold Book.place; split
    · omega
    · simp
  have hixl : ix < pl.length := (List.getElem?_eq_some_iff.1 pe).1
  have hi0 : (0 : Int) ≤ (ix : Int) := by omega
  have hi1 : (ix : Int) < (pl.length : Int) := by omega
  obtain ⟨iS, hiS, hz0, hz1, hz2⟩ := info_parts textInfo
  clear pe pn h hn hbase hix hpl hen hv
  go_enter Tryz.func19, Tryz.ntmps19
  cases done with
  | true =>
    have HTK : Hid (tk = pl.set ix ⟨s, false, [dt]⟩) := Lib.hid (htk.trans (if_pos rfl))
    clear htk
    go_wp2_with (go_at_call 49; refine HP.out.mono ?_; rintro e w1 ⟨v1, rfl, hb1, ht1⟩; obtain ⟨vals, hB1⟩ := hb1; obtain ⟨a1, c1, rfl, hc1⟩ := own_shape hB1.row; obtain ⟨g, x, d, rfl, _, hgl, hfz, _, _, y0, y1, y2, _⟩ := hB1.at_ rfl HPE.out; have HB1 := Lib.hid hB1; have HT1 := Lib.hid ht1; clear hB1 ht1)
    refine exit_world fun W hW => ?_
    have hs1 := HT1.out.size
    have hW2 : W = (((w1.alloc (.cells #[.string ⟨dt.toArray⟩] 9)).setCell ⟨g, ix * 3, none⟩ (strV s)).setCell ⟨g, ix * 3 + 1, none⟩ (.bool false)).setCell ⟨g, ix * 3 + 2, none⟩ (.slice (some ⟨w1.heap.size, 0, none⟩) 1 1) := by
      rw [World.setCell_alloc_past _ _ _ _ hgl, World.setCell_alloc_past _ _ _ _ (by simpa using hgl), World.setCell_alloc_past _ _ _ _ (by simpa using hgl)]
      exact hW
    have HE := Lib.hid (HB1.out.laid HT1.out rfl hixl ⟨s, false, [dt]⟩ (.slice (some ⟨w1.heap.size, 0, none⟩) 1 1) ((Below.refl _ w1).alloc (Nat.le_refl _) (.cells #[.string ⟨dt.toArray⟩] 9)) (own_fresh w1 base 9 (strV dt) (by have := HBS.out; omega)) (fun j u hj hu => by
      cases e : u.ownBlock with
      | none => exact .inl rfl
      | some k =>
        refine .inr fun e2 => ?_
        have hjl : j < pl.length := by rw [← HB1.out.len]; exact (List.getElem?_eq_some_iff.1 hu).1
        have h1 := ((HB1.out.each j _ u (List.getElem?_eq_getElem hjl) hu).lt k e).2
        simp [Value.ownBlock] at e2
        omega) (fun i hi => by simp [Value.ownBlock] at hi; subst hi; exact .inr ⟨Nat.le_refl _, by simp⟩) hW2)
    clear hW hW2
    go_ret
    exact ⟨_, rfl, by rw [HTK.out]; exact HE.out.1, HE.out.2⟩
  | false =>
    have htk := htk.trans (if_neg (by decide))
    have HTK := Lib.hid htk
    clear htk
    obtain ⟨vl, hvl2⟩ : ∃ vl, vl = en.values.length := ⟨_, rfl⟩
    rw [← hvl2] at hvl
    have HVL := Lib.hid hvl2
    clear hvl2
    go_upto_region 4 with (go_at_call 49; refine HP.out.mono ?_; rintro e w1 ⟨v1, rfl, hb1, ht1⟩; obtain ⟨vals, hB1⟩ := hb1; obtain ⟨a1, c1, rfl, hc1⟩ := own_shape hB1.row; obtain ⟨g, x, d, rfl, _, hgl, hfz, hvx, hld, y0, y1, y2, hox⟩ := hB1.at_ rfl HPE.out; rw [← HVL.out] at hvx hld y2 hox; have HB1 := Lib.hid hB1; have HT1 := Lib.hid ht1; have HVX := Lib.hid hvx; have HOX := Lib.hid hox; clear hB1 ht1 hvx hox)
    have HHS : Hid (Calls Tryz.prog 50 #[.slice x vl d, .string ⟨dt.toArray⟩] w1 fun e w' => e = .returned (.bool (en.values.contains dt)) ∧ w1 = w') := Lib.hid (has_any en.values x vl d HVL.out (by omega) dt w1 (Reads.of_own HOX.out))
    obtain ⟨hc, hhc⟩ : ∃ hc, hc = en.values.contains dt := ⟨_, rfl⟩
    rw [← hhc] at HTK HHS
    clear hhc
    cases hc with
    | true =>
      have HTK2 : Hid (tk = pl) := Lib.hid (HTK.out.trans (if_pos rfl))
      have HE := Lib.hid (And.intro (show BookAt w1 base (grow F w w1) (.slice (some ⟨g, 0, none⟩) pl.length c1) pl from ⟨_, HB1.out⟩) HT1.out)
      go_wp2_with (go_at_call 50; refine HHS.out.mono ?_; rintro e w' ⟨rfl, rfl⟩)
      go_ret
      exact ⟨_, rfl, by rw [HTK2.out]; exact HE.out.1, HE.out.2⟩
    | false =>
      have HTK2 : Hid (tk = pl.set ix ⟨en.name, en.absent, en.values ++ [dt]⟩) := Lib.hid (HTK.out.trans (if_neg (by decide)))
      clear HTK
      have hb0 : base ≤ w1.heap.size := by have h1 := HBS.out; have h2 := HT1.out.size; omega
      have hng : ∀ i, (Value.slice x vl d).ownBlock = some i → i ≠ g := fun i hi => own_block_ne HOX.out HB1.out.row (by decide) rfl hi
      have HNG := Lib.hid hng
      have HHG : Hid (∀ w3, (w1.alloc (.cells #[.string ⟨dt.toArray⟩] 9)).grownBy w3 (Value.slice x vl d).ownBlock → w3.heap[g]? = w1.heap[g]?) := Lib.hid fun w3 hg => by
        rw [hg.block g (by simp; omega) (fun e => HNG.out g e.symm rfl)]
        exact heap_alloc_old w1 _ hgl
      clear hng
      go_wp2_with (first
        | (go_at_call 50; refine HHS.out.mono ?_; rintro e w' ⟨rfl, rfl⟩)
        | (at_builtin; go_must (refine wpList_append_any _ (by rfl) (.tmp 38) (.tmp 40) 97 (by rfl) base 9 iS _ 1 16 Tryz.underlying97 hiS hz0 hz1 hz2 rfl (by omega) _ vl _ (by rfl) (HOX.out.alloc _) (w1.heap.size + 1) (some ⟨w1.heap.size, 0, none⟩) 1 1 [.string ⟨dt.toArray⟩] (by rfl) (by exact reads_blk (t := 9) (blk_last _ _ _ _ rfl) (by omega) rfl) (by intro u hu; simp at hu; subst hu; rfl) (by simp only [maxLen]; omega) (by omega) (by rw [alloc_size]; omega) ?_); intro v3 w3 hown3 hg3 hat3; obtain ⟨a4, c4, rfl, _⟩ := own_shape hown3; have hcg := HHG.out w3 hg3; have z2 : w3.cell? ⟨g, ix * 3 + 2, none⟩ = some (.slice x vl d) := ((World.cell?_of_block hcg).trans y2); have hfz3 : ∀ i, w3.frozen? ⟨g, i, none⟩ = false := (fun i => (World.frozen?_of_block hcg).trans (hfz i)); have hgl3 : g < w3.heap.size := (by have := hg3.size; simp at this; omega); have HOWN3 := Lib.hid hown3; have HG3 : Hid ((w1.alloc (.cells #[.string ⟨dt.toArray⟩] 9)).grownBy w3 (Value.slice x vl d).ownBlock) := Lib.hid hg3; have HAT3 := Lib.hid hat3; have HCG := Lib.hid hcg; clear hown3 hg3 hat3 hcg)
        | fail)
      refine exit_world fun W hW => ?_
      have hs3 : w1.heap.size + 1 ≤ w3.heap.size := by have := HG3.out.size; simpa using this
      have y30 : w3.cell? ⟨g, ix * 3, none⟩ = some (strV en.name) := (World.cell?_of_block HCG.out).trans y0
      have y31 : w3.cell? ⟨g, ix * 3 + 1, none⟩ = some (.bool en.absent) := (World.cell?_of_block HCG.out).trans y1
      have hW2 : W = ((w3.setCell ⟨g, ix * 3, none⟩ (strV en.name)).setCell ⟨g, ix * 3 + 1, none⟩ (.bool en.absent)).setCell ⟨g, ix * 3 + 2, none⟩ (.slice a4 (vl + 1) c4) := by
        rw [setCell_same y30, setCell_same y31]
        exact hW
      have hfx : ∀ i, (Value.slice x vl d).ownBlock = some i → grow F w w1 i := fun i hi => HB1.out.fu ix _ i HVX.out hi
      have ht3 : Touch (grow F w w1) w1 w3 := grown_touch ((Below.refl _ w1).alloc (Nat.le_refl _) _) HG3.out hfx
      have hkeep : ∀ (j : Nat) (u : Value) (i : Nat), j ≠ ix → vals[j]? = some u → u.ownBlock = some i → i < w1.heap.size ∧ some i ≠ (Value.slice x vl d).ownBlock := fun j u i hj hu hi => by
        have hjl : j < pl.length := by rw [← HB1.out.len]; exact (List.getElem?_eq_some_iff.1 hu).1
        refine ⟨((HB1.out.each j _ u (List.getElem?_eq_getElem hjl) hu).lt i hi).2, ?_⟩
        rcases HB1.out.apart j ix u _ hj hu HVX.out with e | e
        · rw [e] at hi; cases hi
        · rw [← hi]; exact e
      have HE := Lib.hid (HB1.out.laid2 HT1.out rfl hixl ⟨en.name, en.absent, en.values ++ [dt]⟩ (.slice a4 (vl + 1) c4) ht3 (ownsRow_keep HB1.out.row fun i hi => by injection hi with hi; subst hi; exact HCG.out)
        (fun j u i hj hu hi => by
          obtain ⟨h1, h2⟩ := hkeep j u i hj hu hi
          rw [HG3.out.block i (by simp; omega) h2]
          exact heap_alloc_old w1 _ h1)
        (by
          have h1 := HOWN3.out
          show w3.ownsRow base 9 1 _ (en.values ++ [dt]).length ((en.values ++ [dt]).map strV)
          rw [List.map_append, List.length_append, ← HVL.out]
          exact h1)
        (fun j u hj hu => by
          cases e : u.ownBlock with
          | none => exact .inl rfl
          | some i =>
            obtain ⟨h1, h2⟩ := hkeep j u i hj hu e
            refine .inr fun e2 => ?_
            rcases HAT3.out with e3 | e3
            · exact h2 (e2.trans e3)
            · rw [e3] at e2
              injection e2 with e2
              simp at e2
              omega)
        (fun i hi => by
          rcases HAT3.out with e3 | e3
          · exact .inl (hfx i (by rw [← e3]; exact hi))
          · have h1 := (HOWN3.out.lt i hi).2
            rw [e3] at hi
            injection hi with hi
            simp at hi
            exact .inr ⟨by omega, h1⟩) hW2)
      clear hW hW2 hfx ht3 hkeep
      go_ret
      exact ⟨_, rfl, by rw [HTK2.out]; exact HE.out.1, HE.out.2⟩
end Go.Proofs.YtdmcjomcbhdcbaaGreat
