/- WoundOwn: the drive's states, purely. No program walked. -/
import Derived.Test.YtdmcjomcbhdcbaaLj
namespace Go.Proofs.Ytdmcjomcbhdcbaa
open Go.RowKit Go.Maps
namespace Ow
/-- What is asked of a drive here: its room, what is used, its bodies, where names lead. -/
structure St (S : Drv) (u : Int) (bs : List Body) (D : Dir) : Prop where
  room : S.room = 3000
  used : S.used = u
  bodies : S.bodies = bs
  now : S.now = D
def D1 : Dir := (DataW.map []).put (key [97]) (num 0)
def D2 : Dir := D1.put (key [98]) (num 1)
def D3 : Dir := D2.put (key [98]) (num 2)
theorem n97 : named [97] = true := by decide
theorem n98 : named [98] = true := by decide
theorem a2 : dget D2 [97] = some 0 := by rfl
theorem b2 : dget D2 [98] = some 1 := by rfl
theorem a3 : dget D3 [97] = some 0 := by rfl
theorem b3 : dget D3 [98] = some 2 := by rfl
theorem names3 : dnames D3 = [[97], [98]] := by
  have hs : strKeys D3 = [[97], [98]] := by rfl
  unfold dnames
  rw [hs]
  exact List.mergeSort_of_pairwise (by decide)
theorem size3 : size D3 = 2 := by rfl
theorem find_ok {S : Drv} {u : Int} {bs : List Body} {D : Dir} {s : Nm} {i : Nat} (h : St S u bs D) (hn : named s = true) (hi : dget D s = some i) : S.find s = (some i, 0) := by
  unfold Drv.find
  rw [h.now, hn, hi]; rfl
theorem St.read {S : Drv} {u : Int} {bs : List Body} {D : Dir} {s : Nm} {i : Nat} {b : Body} (h : St S u bs D) (hn : named s = true) (hi : dget D s = some i) (hb : bs[i]? = some b) : S.read s = (b.data, 0) := by
  unfold Drv.read
  rw [find_ok h hn hi]
  simp only [Drv.body, h.bodies, List.getD_eq_getElem?_getD, hb, Option.getD_some]
theorem St.append {S : Drv} {u : Int} {bs : List Body} {D : Dir} {s : Nm} {i : Nat} {b : Body} (h : St S u bs D) (hn : named s = true) (hi : dget D s = some i) (hb : bs[i]? = some b) (d : List UInt8) (hr : u + d.length ≤ 3000) :
    St (S.append s d).1 (u + d.length) (bs.set i ⟨b.data ++ d, b.safe⟩) D ∧ (S.append s d).2 = 0 := by
  have hbd : S.body i = b := by simp only [Drv.body, h.bodies, List.getD_eq_getElem?_getD, hb, Option.getD_some]
  unfold Drv.append
  rw [find_ok h hn hi]
  simp only
  by_cases hd : d = []
  · subst hd
    rw [if_pos rfl]
    refine ⟨⟨h.room, by rw [h.used]; simp, ?_, h.now⟩, rfl⟩
    rw [h.bodies, List.append_nil]
    have hlt : i < bs.length := by
      rcases Nat.lt_or_ge i bs.length with h1 | h1
      · exact h1
      · rw [List.getElem?_eq_none h1] at hb; cases hb
    apply List.ext_getElem?
    intro j
    by_cases hj : i = j
    · subst hj
      rw [List.getElem?_set_self hlt, hb]
    · rw [List.getElem?_set_ne hj]
  · rw [if_neg hd, if_neg (by rw [h.room, h.used]; omega)]
    refine ⟨⟨h.room, by rw [← h.used], ?_, h.now⟩, rfl⟩
    show S.bodies.set i _ = _
    rw [hbd, h.bodies]
/-- The states one behind the other: d at "a" and "b", then x behind "b", then "b" anew with o. -/
def S0 : Drv := Drv.new 3000
def S1 : Drv := (S0.create [97]).1
def S2 : Drv := (S1.create [98]).1
def S3 (d : List UInt8) : Drv := (S2.append [97] d).1
def S4 (d : List UInt8) : Drv := ((S3 d).append [98] d).1
def S5 (d x : List UInt8) : Drv := ((S4 d).append [98] x).1
def S6 (d x : List UInt8) : Drv := ((S5 d x).create [98]).1
def S7 (d x o : List UInt8) : Drv := ((S6 d x).append [98] o).1
theorem c1 : S0.create [97] = (S1, 0) := by rfl
theorem c2 : S1.create [98] = (S2, 0) := by rfl
theorem t2 : St S2 0 [⟨[], 0⟩, ⟨[], 0⟩] D2 := ⟨rfl, rfl, rfl, rfl⟩
section
variable {d x o : List UInt8} (hd : d.length ≤ 900) (hx : x.length = d.length) (ho : o.length ≤ 900)
include hd
theorem p3 : St (S3 d) (0 + d.length) [⟨d, 0⟩, ⟨[], 0⟩] D2 ∧ (S2.append [97] d).2 = 0 := by
  have h := t2.append n97 a2 (b := ⟨[], 0⟩) rfl d (by omega)
  have h2 := h.1
  simp at h2
  exact ⟨by simpa [S3] using h2, h.2⟩
theorem c3 : S2.append [97] d = (S3 d, 0) := by rw [← (p3 hd).2]; rfl
theorem p4 : St (S4 d) (0 + d.length + d.length) [⟨d, 0⟩, ⟨d, 0⟩] D2 ∧ ((S3 d).append [98] d).2 = 0 := by
  have h := (p3 hd).1.append n98 b2 (b := ⟨[], 0⟩) rfl d (by omega)
  have h2 := h.1
  simp at h2
  exact ⟨by simpa [S4] using h2, h.2⟩
theorem c4 : (S3 d).append [98] d = (S4 d, 0) := by rw [← (p4 hd).2]; rfl
include hx
theorem p5 : St (S5 d x) (0 + d.length + d.length + x.length) [⟨d, 0⟩, ⟨d ++ x, 0⟩] D2 ∧ ((S4 d).append [98] x).2 = 0 := by
  have h := (p4 hd).1.append n98 b2 (b := ⟨d, 0⟩) rfl x (by omega)
  have h2 := h.1
  simp at h2
  exact ⟨by simpa [S5] using h2, h.2⟩
theorem c5 : (S4 d).append [98] x = (S5 d x, 0) := by rw [← (p5 hd hx).2]; rfl
theorem r5 : (S5 d x).read [98] = (d ++ x, 0) := (p5 hd hx).1.read n98 b2 rfl
theorem p6 : St (S6 d x) (d.length) [⟨d, 0⟩, ⟨d ++ x, 0⟩, ⟨[], 0⟩] D3 ∧ ((S5 d x).create [98]).2 = 0 := by
  have h := (p5 hd hx).1
  unfold S6 Drv.create
  rw [n98, h.now, b2, if_neg (by decide), if_neg (by simp)]
  refine ⟨⟨h.room, ?_, ?_, ?_⟩, rfl⟩
  · simp [Drv.change, Drv.chAll, Drv.chStp, Drv.lenO, Drv.len, Drv.body, h.used, h.bodies, b2]; omega
  · simp [Drv.change, Drv.chAll, Drv.chStp, h.bodies]
  · simp [Drv.change, Drv.chAll, Drv.chStp, h.bodies, applyStp]; rfl
theorem c6 : (S5 d x).create [98] = (S6 d x, 0) := by rw [← (p6 hd hx).2]; rfl
include ho
theorem p7 : St (S7 d x o) (d.length + o.length) [⟨d, 0⟩, ⟨d ++ x, 0⟩, ⟨o, 0⟩] D3 ∧ ((S6 d x).append [98] o).2 = 0 := by
  have h := (p6 hd hx).1.append n98 b3 (b := ⟨[], 0⟩) rfl o (by omega)
  have h2 := h.1
  simp at h2
  exact ⟨by simpa [S7] using h2, h.2⟩
theorem c7 : (S6 d x).append [98] o = (S7 d x o, 0) := by rw [← (p7 hd hx ho).2]; rfl
theorem ra : (S7 d x o).read [97] = (d, 0) := (p7 hd hx ho).1.read n97 a3 rfl
theorem rb : (S7 d x o).read [98] = (o, 0) := (p7 hd hx ho).1.read n98 b3 rfl
theorem l7 : dnames (S7 d x o).now = [[97], [98]] := by rw [(p7 hd hx ho).1.now, names3]
theorem z7 : size (S7 d x o).now ≤ 2199023255552 := by rw [(p7 hd hx ho).1.now, size3]; decide
end
section
variable (d x o : List UInt8)
theorem i0 : S0.Inv 0 := Drv.new_inv 3000 0 (by omega) (by omega)
theorem i1 : S1.Inv 1 := Drv.create_inv i0 _ (by show 1 * 3000 ≤ _; omega)
theorem i2 : S2.Inv 2 := Drv.create_inv i1 _ (by show 2 * 3000 ≤ _; omega)
theorem app_room (S : Drv) (s : Nm) (b : List UInt8) : (S.append s b).1.room = S.room := by
  unfold Drv.append
  split
  · rfl
  · split
    · rfl
    · split <;> rfl
theorem cre_room (S : Drv) (s : Nm) : (S.create s).1.room = S.room := by
  unfold Drv.create
  split
  · rfl
  · split <;> rfl
theorem m2 : S2.room = 3000 := rfl
theorem m3 : (S3 d).room = 3000 := (app_room _ _ _).trans m2
theorem m4 : (S4 d).room = 3000 := (app_room _ _ _).trans (m3 d)
theorem m5 : (S5 d x).room = 3000 := (app_room _ _ _).trans (m4 d)
theorem m6 : (S6 d x).room = 3000 := (cre_room _ _).trans (m5 d x)
theorem i3 : (S3 d).Inv 3 := Drv.append_inv i2 _ _ (by rw [m2]; omega)
theorem i4 : (S4 d).Inv 4 := Drv.append_inv (i3 d) _ _ (by rw [m3]; omega)
theorem i5 : (S5 d x).Inv 5 := Drv.append_inv (i4 d) _ _ (by rw [m4]; omega)
theorem i6 : (S6 d x).Inv 6 := Drv.create_inv (i5 d x) _ (by rw [m5]; omega)
theorem i7 : (S7 d x o).Inv 7 := Drv.append_inv (i6 d x) _ _ (by rw [m6]; omega)
theorem s0 : S0.Small := i0.small (by omega)
theorem s1 : S1.Small := i1.small (by omega)
theorem s2 : S2.Small := i2.small (by omega)
theorem s3 : (S3 d).Small := (i3 d).small (by omega)
theorem s4 : (S4 d).Small := (i4 d).small (by omega)
theorem s5 : (S5 d x).Small := (i5 d x).small (by omega)
theorem s6 : (S6 d x).Small := (i6 d x).small (by omega)
theorem s7 : (S7 d x o).Small := (i7 d x o).small (by omega)
end
/-- An unhurt wound behind c calls; the same behind Arm with one fault at k, and j calls. -/
def kz (c : Int) : Wnd := ⟨false, false, [], c, c, none⟩
def kA (k j : Int) : Wnd := ⟨false, false, [(k, 1)], j, 13 + j, none⟩
theorem kz0 : Wnd.new = kz 0 := rfl
theorem zcall (c : Int) (S : Drv) (may : Bool) (f : Drv × Int) : wcall (kz c) S may f = (kz (c + 1), f.1, f.2) := by rfl
theorem zapp (c : Int) (S : Drv) (s : Nm) (b : List UInt8) : wappend (kz c) S s b = (kz (c + 1), (S.append s b).1, (S.append s b).2) := by rfl
theorem zread {α : Type} (c : Int) (r : List α × Int) : wread (kz c) r = (kz (c + 1), r.1, r.2) := by rfl
theorem zarm (k : Int) : (kz 13).arm [(k, 1)] = kA k 0 := by rfl
theorem zok {c : Int} (h0 : 0 ≤ c) (h1 : c ≤ 100) : (kz c).Ok := ⟨⟨h0, by show c ≤ _; omega⟩, ⟨h0, by show c ≤ _; omega⟩, by show 0 ≤ _; omega, fun f e => by cases e⟩
theorem aok {k j : Int} (h0 : 0 ≤ j) (h1 : j ≤ 100) : (kA k j).Ok := ⟨⟨h0, by show j ≤ _; omega⟩, ⟨by show 0 ≤ 13 + j; omega, by show 13 + j ≤ _; omega⟩, by show 1 ≤ _; omega, fun f e => by cases e⟩
theorem aread {α : Type} (k j : Int) (r : List α × Int) : wread (kA k j) r = if k = j then (kA k (j + 1), [], 120) else (kA k (j + 1), r.1, r.2) := by
  have hs : (kA k j).struck false = (kA k (j + 1), if k = j then 120 else 0, -1) := by
    show ((kA k j).count, Wnd.scan false j [(k, 1)], (-1 : Int)) = _
    have : (kA k j).count = kA k (j + 1) := by
      show (⟨false, false, [(k, 1)], j + 1, 13 + j + 1, none⟩ : Wnd) = ⟨false, false, [(k, 1)], j + 1, 13 + (j + 1), none⟩
      rw [Int.add_assoc]
    rw [this]; rfl
  unfold wread
  rw [hs]
  by_cases h : k = j
  · simp [h]
  · simp [h]
end Ow
end Go.Proofs.Ytdmcjomcbhdcbaa
