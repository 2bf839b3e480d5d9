/- The document's gate: its methods, the blow, what it asks, and the gate of a wound. -/
import Derived.Test.YtdmcjomcbhdcbaaWx
import Derived.IntWalk
import Derived.Test.YtdmcjomcbhdcbaaLj
import Derived.RegionTactic
import Derived.ChangeAlike
import Derived.Deep.RegionHeld3
import Derived.Test.YtdmcjomcbhdcbaaRe
namespace Go.Proofs.Ytdmcjomcbhdcbaa
open Go.RowKit Go.Maps

structure GCells where
  d : Bool
  a : Bool
  pa : Option Addr
  pn : Nat
  pc : Nat
  k : Int
  r : Int
  laid : Bool
  R : Int
  C : Int
  I : Int
def gcells (g : GCells) : Array Value := #[.bool g.d, .bool g.a, .slice g.pa g.pn g.pc, .int .i64 g.k, .int .i64 g.r, .bool g.laid, .int .i64 g.R, .int .i64 g.C, .int .i64 g.I]
def GCells.struck (g : GCells) : Bool := g.laid && g.R == 0

theorem gstruck_any (g : GCells) (w : World) :
    Calls Try.prog 39 #[.agg (gcells g)] w fun e w' => e = .returned (.bool g.struck) ∧ Below w.heap.size w w' := by
  unfold gcells GCells.struck
  obtain ⟨d, a, pa, pn, pc, k, r, laid, R, C, I⟩ := g
  cases laid with
  | false =>
    go_enter Try.func39, Try.ntmps39
    go_wp2
    go_ret
    exact ⟨rfl, (Below.refl _ _).alloc (Nat.le_refl _) _⟩
  | true =>
    go_enter Try.func39, Try.ntmps39
    go_wp2
    go_ret
    exact ⟨rfl, (Below.refl _ _).alloc (Nat.le_refl _) _⟩

theorem goffline_any (g : GCells) (off : Bool) (w : World) :
    Calls Try.prog 61 #[.agg (gcells g), .bool off] w fun e w' => e = .returned (.agg (gcells { g with a := off })) ∧ Below w.heap.size w w' := by
  unfold gcells
  obtain ⟨d, a, pa, pn, pc, k, r, laid, R, C, I⟩ := g
  go_enter Try.func61, Try.ntmps61
  go_wp2
  refine bodyPost_ret (v := .agg #[.bool d, .bool off, .slice pa pn pc, .int .i64 k, .int .i64 r, .bool laid, .int .i64 R, .int .i64 C, .int .i64 I]) (by simp only [results, Try.results61]; go_simp) rfl ⟨rfl, ?_⟩
  exact ((Below.refl _ w).alloc (Nat.le_refl _) _).alloc (by simp) _

theorem gpower_any (g : GCells) (on : Bool) (w : World) :
    Calls Try.prog 64 #[.agg (gcells g), .bool on] w fun e w' => e = .returned (.agg (gcells { g with d := !on })) ∧ Below w.heap.size w w' := by
  unfold gcells
  obtain ⟨d, a, pa, pn, pc, k, r, laid, R, C, I⟩ := g
  go_enter Try.func64, Try.ntmps64
  go_wp2
  refine bodyPost_ret (v := .agg #[.bool (!on), .bool a, .slice pa pn pc, .int .i64 k, .int .i64 r, .bool laid, .int .i64 R, .int .i64 C, .int .i64 I]) (by simp only [results, Try.results64]; go_simp) rfl ⟨rfl, ?_⟩
  exact ((Below.refl _ w).alloc (Nat.le_refl _) _).alloc (by simp) _

theorem gfuse_any (g : GCells) (x y z : Int) (w : World) :
    Calls Try.prog 62 #[.agg (gcells g), .int .i64 x, .int .i64 y, .int .i64 z] w fun e w' => e = .returned (.agg (gcells { g with laid := decide (0 ≤ x), R := x, C := y, I := z })) ∧ Below w.heap.size w w' := by
  unfold gcells
  obtain ⟨d, a, pa, pn, pc, k, r, laid, R, C, I⟩ := g
  go_enter Try.func62, Try.ntmps62
  go_wp2
  refine bodyPost_ret (v := .agg #[.bool d, .bool a, .slice pa pn pc, .int .i64 k, .int .i64 r, .bool (decide (0 ≤ x)), .int .i64 x, .int .i64 y, .int .i64 z]) (by simp only [results, Try.results62]; go_simp) rfl ⟨rfl, ?_⟩
  exact ((Below.refl _ w).alloc (Nat.le_refl _) _).alloc (by simp) _

def GCells.rest (g : GCells) (off : Bool) : GCells :=
  { g with r := 0, laid := (g.laid && !(g.R == 0)), R := (if g.laid = true ∧ g.R ≠ 0 then g.R - 1 else g.R), d := g.d || off }
theorem grest_any (g : GCells) (off : Bool) (w : World) (hR : g.laid = true → 0 ≤ g.R ∧ g.R ≤ 9223372036854775807) :
    Calls Try.prog 63 #[.agg (gcells g), .bool off] w fun e w' => e = .returned (.agg (gcells (g.rest off))) ∧ Below w.heap.size w w' := by
  unfold gcells GCells.rest
  obtain ⟨d, a, pa, pn, pc, k, r, laid, R, C, I⟩ := g
  simp only at hR ⊢
  by_cases h0 : R = 0
  · subst h0
    rw [if_neg (by simp)]
    cases off <;>
    · go_enter Try.func63, Try.ntmps63
      go_wp2
      refine bodyPost_ret (v := .agg #[.bool _, .bool a, .slice pa pn pc, .int .i64 k, .int .i64 0, .bool false, .int .i64 0, .int .i64 C, .int .i64 I]) (by simp only [results, Try.results63]; go_simp; rfl) rfl ⟨?_, ?_⟩
      · simp
      · exact ((Below.refl _ w).alloc (Nat.le_refl _) _).alloc (by simp) _
  · cases laid with
    | false =>
      rw [if_neg (by simp)]
      clear hR
      cases off <;>
      · go_enter Try.func63, Try.ntmps63
        go_wp2
        refine bodyPost_ret (v := .agg #[.bool _, .bool a, .slice pa pn pc, .int .i64 k, .int .i64 0, .bool false, .int .i64 R, .int .i64 C, .int .i64 I]) (by simp only [results, Try.results63]; go_simp; rfl) rfl ⟨?_, ?_⟩
        · simp
        · exact ((Below.refl _ w).alloc (Nat.le_refl _) _).alloc (by simp) _
    | true =>
      obtain ⟨h1, h2⟩ := hR rfl
      clear hR
      have hb : (!(R == 0)) = true := by simp [h0]
      have HB := Lib.hid hb
      have H0 := Lib.hid h0
      have h3 : 1 ≤ R := by omega
      rw [if_pos ⟨rfl, H0.out⟩]
      clear hb h0
      cases off <;>
      · go_enter Try.func63, Try.ntmps63
        go_wp2
        refine bodyPost_ret (v := .agg #[.bool _, .bool a, .slice pa pn pc, .int .i64 k, .int .i64 0, .bool true, .int .i64 (R - 1), .int .i64 C, .int .i64 I]) (by simp only [results, Try.results63]; go_simp; rfl) rfl ⟨?_, ?_⟩
        · simp [H0.out]
        · exact ((Below.refl _ w).alloc (Nat.le_refl _) _).alloc (by simp) _

/-- The gate's number of a call's kind. -/
def gkind (k : Int) : Int := if k = 1 then 1 else if k = 2 then 2 else 3
def gmay (k : Int) : Bool := k == 1 || k == 2

set_option maxRecDepth 100000 in
set_option maxHeartbeats 1000000 in
theorem strike_any (base : Nat) (pa : Option Addr) (pc len : Nat) (l : List (Int × Int)) (num gk : Int) (hgk : gk = 1 ∨ gk = 2 ∨ gk = 3) (w : World) (hlen : len = l.length) (h : w.ownsRow base 46 2 (.slice pa len pc) len (planCells l)) (hl : len ≤ 8796093021952) :
    Calls Try.prog 78 #[.slice pa len pc, .int .i64 num, .int .i64 gk] w fun e w' => e = .returned (.int .i64 (Wnd.scan (gmay gk) num l)) ∧ ∃ n, w' = w.drewN n := by
  have HO := Lib.hid h
  have HLEN := Lib.hid hlen
  obtain ⟨may, hmay⟩ : ∃ may, may = gmay gk := ⟨_, rfl⟩
  rw [← hmay]
  obtain ⟨z, hz⟩ : ∃ z, z = Wnd.scan may num l := ⟨_, rfl⟩
  rw [← hz]
  have HZ := Lib.hid hz
  have HMAY := Lib.hid hmay
  clear h hlen hz hmay
  rcases hgk with rfl | rfl | rfl
  all_goals
    go_enter Try.func78, Try.ntmps78
    go_wp2
    go_loopw [7] (fun s wr => ∃ k : Nat, k ≤ len ∧ s = .int .i64 k ∧ Wnd.scan (may) num (l.drop k) = z ∧ ∃ n, wr = w.drewN n) (fun s _ => len - (intOf s).toNat)
    case atStart => exact ⟨0, Nat.zero_le _, rfl, by rw [HZ.out]; rfl, 0, rfl⟩
    case round =>
      obtain ⟨k, hk, rfl, hsc, m, hm⟩ := hrel
      have HSC := Lib.hid hsc
      have HM := Lib.hid hm
      clear hsc
      by_cases hlt : k < len
      · obtain ⟨f, hfk⟩ : ∃ f, l[k]? = some f := ⟨_, List.getElem?_eq_getElem (by rw [← HLEN.out]; exact hlt)⟩
        obtain ⟨c1, c2⟩ := plan_get _ _ _ hfk
        have hpl := HO.out
        obtain ⟨g, cap, hv, _, hglt⟩ := hpl.form (by omega)
        have hpa : pa = some ⟨g, 0, none⟩ := by injection hv
        subst hpa
        have x1 : wr.cell? ⟨g, k * 2, none⟩ = some (.int .i64 f.1) := by
          have := hpl.cells (g := g) rfl (k * 2) _ c1
          rw [hm]; simpa [add_plain] using this
        have x2 : wr.cell? ⟨g, k * 2 + 1, none⟩ = some (.int .i64 f.2) := by
          have := hpl.cells (g := g) rfl (k * 2 + 1) _ c2
          rw [hm]; simpa [add_plain] using this
        have hdr : l.drop k = f :: l.drop (k + 1) := by
          rw [List.drop_eq_getElem_cons (by rw [← HLEN.out]; exact hlt)]
          congr 1
          rw [List.getElem?_eq_getElem (by rw [← HLEN.out]; exact hlt)] at hfk
          injection hfk
        clear c1 c2 hpl hv hfk hm
        by_cases e1 : f.1 = num
        · have b1 : (f.1 == num) = true := by simp [e1]
          have hz1 : z = if f.2 = 1 then 120 else if f.2 = 2 ∧ may = true then 111 else 0 := by
            have := HSC.out; rw [hdr] at this; unfold Wnd.scan at this; rw [if_pos e1] at this; exact this.symm
          clear hdr
          have HE1 := Lib.hid e1; clear e1
          by_cases e2 : f.2 = 1
          · have b2 : (f.2 == 1) = true := by simp [e2]
            rw [if_pos e2] at hz1
            have HZ1 := Lib.hid hz1; clear hz1 e2
            go_wp2
            go_ret
            exact ⟨by rw [HZ1.out]; exact rfl, m, HM.out⟩
          · have b2 : (f.2 == 1) = false := by simp [e2]
            rw [if_neg e2] at hz1
            clear e2
            by_cases e3 : f.2 = 2
            · have b3 : (f.2 == 2) = true := by simp [e3]
              have HE3 := Lib.hid e3
              have HZ1 := Lib.hid hz1; clear hz1 e3
              go_wp2
              go_ret
              exact ⟨by rw [HZ1.out]; first | (rw [if_pos ⟨HE3.out, HMAY.out⟩]; exact rfl) | (rw [if_neg (by rintro ⟨_, h⟩; rw [HMAY.out] at h; exact absurd h (by decide))]; exact rfl), m, HM.out⟩
            · have b3 : (f.2 == 2) = false := by simp [e3]
              rw [if_neg (by rintro ⟨h, _⟩; exact e3 h)] at hz1
              have HZ1 := Lib.hid hz1; clear hz1 e3
              go_wp2
              go_ret
              exact ⟨by rw [HZ1.out]; exact rfl, m, HM.out⟩
        · have b1 : (f.1 == num) = false := by simp [e1]
          have hz1 : Wnd.scan (may) num (l.drop (k + 1)) = z := by
            have := HSC.out; rw [hdr] at this; unfold Wnd.scan at this; rw [if_neg e1] at this; exact this
          have HZ1 := Lib.hid hz1
          clear hdr hz1 e1
          go_wp2
          go_roundw
          case rel => exact ⟨k + 1, by omega, by go_num, HZ1.out, m, HM.out⟩
          case measure => simp [intOf]; omega
      · have hkl : k = len := by omega
        have hz1 : z = 0 := by have := HSC.out; rw [hkl, HLEN.out, List.drop_length] at this; exact this.symm
        have HZ1 := Lib.hid hz1
        clear hz1 hm
        subst hkl
        go_wp2
        go_ret
        exact ⟨by rw [HZ1.out]; exact rfl, m, HM.out⟩

def GCells.hits (g : GCells) : Bool := g.laid && g.R == 0 && g.C == g.r
def GCells.count (g : GCells) : GCells := { g with k := g.k + 1, r := g.r + 1 }
def ansV (goes : Bool) (bytes err : Int) : Value := .agg #[.bool goes, .int .i64 bytes, .int .i64 err]

/-- Nothing below h has turned, behind allocs, stores above, draws. -/
theorem Below.tail {B : Nat} {w W : World} (h : Below B w W) (hB : B ≤ w.heap.size) : (∀ o, Below B w (W.alloc o)) ∧ Below B w W.drew ∧ ∀ p u, B ≤ p.block → Below B w (W.setCell p u) :=
  ⟨fun o => h.alloc (Nat.le_trans hB h.size) o, below_drewN h 1, fun p u hp => h.setCell hp u⟩

theorem below_drew1 {B : Nat} {a w : World} (h : Below B a w) : Below B a w.drew := below_drewN h 1
theorem three {w w1 : World} {a b c : Array Value} {t s u : TypeId} (h : Below (((w.alloc (.cells a t)).alloc (.cells b s)).alloc (.cells c u)).heap.size (((w.alloc (.cells a t)).alloc (.cells b s)).alloc (.cells c u)) w1) :
    Blk w1 w.heap.size t a ∧ Blk w1 (w.heap.size + 1) s b ∧ Blk w1 (w.heap.size + 1 + 1) u c ∧ w.heap.size + 1 + 1 < w1.heap.size ∧ Below w.heap.size w w1 := by
  have hs := h.size
  simp only [alloc_size] at hs
  refine ⟨Blk.below (((Blk.new _ _ _).alloc _).alloc _) h (by simp; omega), Blk.below ((blk_last _ _ _ _ (by simp)).alloc _) h (by simp), Blk.below (blk_last _ _ _ _ (by simp)) h (by simp), by omega, ?_⟩
  exact ((((Below.refl _ w).alloc (Nat.le_refl _) _).alloc (by simp) _).alloc (by simp; omega) _).trans (h.mono (by simp; omega))

set_option maxHeartbeats 1000000 in
theorem ask_down (g : GCells) (gk size : Int) (w : World) (hd : g.d = true) :
    Calls Try.prog 58 #[.agg (gcells g), .int .i64 gk, .int .i64 size] w fun e w' => e = .returned (.tuple #[ansV false 0 122, .agg (gcells g)]) ∧ Below w.heap.size w w' := by
  unfold gcells ansV
  obtain ⟨d, a, pa, pn, pc, k, r, laid, R, C, I⟩ := g
  simp only at hd
  subst hd
  go_enter Try.func58, Try.ntmps58
  go_wp2
  go_region
  all_goals
    go_wp2
    refine bodyPost_ret (v := .tuple #[.agg #[.bool false, .int .i64 0, .int .i64 122], .agg #[.bool true, .bool a, .slice pa pn pc, .int .i64 k, .int .i64 r, .bool laid, .int .i64 R, .int .i64 C, .int .i64 I]]) (by simp only [results, Try.results58]; go_simp) rfl ⟨rfl, ?_⟩
    first
      | exact (((Below.refl _ w).alloc (Nat.le_refl _) _).alloc (by simp) _).alloc (by simp; omega) _
      | exact below_drewN ((((Below.refl _ w).alloc (Nat.le_refl _) _).alloc (by simp) _).alloc (by simp; omega) _) 1
set_option maxHeartbeats 1000000 in
theorem ask_away (g : GCells) (gk size : Int) (w : World) (hd : g.d = false) (ha : g.a = true) :
    Calls Try.prog 58 #[.agg (gcells g), .int .i64 gk, .int .i64 size] w fun e w' => e = .returned (.tuple #[ansV false 0 121, .agg (gcells g)]) ∧ Below w.heap.size w w' := by
  unfold gcells ansV
  obtain ⟨d, a, pa, pn, pc, k, r, laid, R, C, I⟩ := g
  simp only at hd ha
  subst hd ha
  go_enter Try.func58, Try.ntmps58
  go_wp2
  go_region
  all_goals
    go_wp2
    refine bodyPost_ret (v := .tuple #[.agg #[.bool false, .int .i64 0, .int .i64 121], .agg #[.bool false, .bool true, .slice pa pn pc, .int .i64 k, .int .i64 r, .bool laid, .int .i64 R, .int .i64 C, .int .i64 I]]) (by simp only [results, Try.results58]; go_simp) rfl ⟨rfl, ?_⟩
    first
      | exact (((Below.refl _ w).alloc (Nat.le_refl _) _).alloc (by simp) _).alloc (by simp; omega) _
      | exact below_drewN ((((Below.refl _ w).alloc (Nat.le_refl _) _).alloc (by simp) _).alloc (by simp; omega) _) 1
set_option maxRecDepth 100000 in
set_option maxHeartbeats 2000000 in
theorem ask_goes (g : GCells) (gk size : Int) (l : List (Int × Int)) (base : Nat) (w : World) (hd : g.d = false) (ha : g.a = false) (hh : g.hits = false) (hgk : gk = 1 ∨ gk = 2 ∨ gk = 3) (hpn : g.pn = l.length) (hpl : w.ownsRow base 46 2 (.slice g.pa g.pn g.pc) g.pn (planCells l)) (hl : g.pn ≤ 8796093021952) (hk : 0 ≤ g.k ∧ g.k ≤ 1152921504606846976) (hr : 0 ≤ g.r ∧ g.r ≤ 1152921504606846976) :
    Calls Try.prog 58 #[.agg (gcells g), .int .i64 gk, .int .i64 size] w fun e w' => e = .returned (.tuple #[ansV (Wnd.scan (gmay gk) g.k l == 0) 0 (Wnd.scan (gmay gk) g.k l), .agg (gcells g.count)]) ∧ Below w.heap.size w w' := by
  unfold gcells ansV GCells.count
  obtain ⟨d, a, pa, pn, pc, k, r, laid, R, C, I⟩ := g
  simp only at hd ha hpn hpl hl hk hr ⊢
  obtain ⟨hk0, hk1⟩ := hk
  obtain ⟨hr0, hr1⟩ := hr
  subst hd ha
  obtain ⟨z, hz⟩ : ∃ z, z = Wnd.scan (gmay gk) k l := ⟨_, rfl⟩
  rw [← hz]
  have HZ := Lib.hid hz
  have HPL := Lib.hid hpl
  have HPN := Lib.hid hpn
  have HGK := Lib.hid hgk
  clear hz hpl hpn hgk
  by_cases hs : (laid && R == 0) = true
  · have hc : (C == r) = false := by
      unfold GCells.hits at hh
      simp only at hh
      rw [hs] at hh
      simpa using hh
    simp only [Bool.and_eq_true, beq_iff_eq] at hs
    obtain ⟨rfl, rfl⟩ := hs
    clear hh
    have HGC : Hid (gcells ⟨false, false, pa, pn, pc, k + 1, r + 1, true, 0, C, I⟩ = #[.bool false, .bool false, .slice pa pn pc, .int .i64 (k + 1), .int .i64 (r + 1), .bool true, .int .i64 0, .int .i64 C, .int .i64 I]) := Lib.hid rfl
    go_enter Try.func58, Try.ntmps58
    go_wp2_with (first
      | (go_at_call 39; rw [← HGC.out]; refine (gstruck_any ⟨false, false, pa, pn, pc, k + 1, r + 1, true, 0, C, I⟩ _).mono ?_; rintro e w1 ⟨rfl, hb1⟩; rw [show GCells.struck ⟨false, false, pa, pn, pc, k + 1, r + 1, true, 0, C, I⟩ = true from rfl]; obtain ⟨k1, k2, k3, hl1, hbel⟩ := three hb1; have hl0 : w.heap.size < w1.heap.size := (by omega); have hl01 : w.heap.size + 1 < w1.heap.size := (by omega); have g0 : w1.cell? ⟨w.heap.size, 0, none⟩ = some (.bool false) := k1.cell 0; have g1 : w1.cell? ⟨w.heap.size, 1, none⟩ = some (.bool false) := k1.cell 1; have g2 : w1.cell? ⟨w.heap.size, 2, none⟩ = some (.slice pa pn pc) := k1.cell 2; have g3 : w1.cell? ⟨w.heap.size, 3, none⟩ = some (.int .i64 (k + 1)) := k1.cell 3; have g4 : w1.cell? ⟨w.heap.size, 4, none⟩ = some (.int .i64 (r + 1)) := k1.cell 4; have g5 : w1.cell? ⟨w.heap.size, 5, none⟩ = some (.bool true) := k1.cell 5; have g6 : w1.cell? ⟨w.heap.size, 6, none⟩ = some (.int .i64 0) := k1.cell 6; have g7 : w1.cell? ⟨w.heap.size, 7, none⟩ = some (.int .i64 C) := k1.cell 7; have g8 : w1.cell? ⟨w.heap.size, 8, none⟩ = some (.int .i64 I) := k1.cell 8; have gf : ∀ i, w1.frozen? ⟨w.heap.size, i, none⟩ = false := k1.frozen; have a0 : w1.cell? ⟨w.heap.size + 1, 0, none⟩ = some (.bool false) := k2.cell 0; have a1 : w1.cell? ⟨w.heap.size + 1, 1, none⟩ = some (.int .i64 0) := k2.cell 1; have a2 : w1.cell? ⟨w.heap.size + 1, 2, none⟩ = some (.int .i64 0) := k2.cell 2; have af : ∀ i, w1.frozen? ⟨w.heap.size + 1, i, none⟩ = false := k2.frozen; have r0 : w1.cell? ⟨w.heap.size + 1 + 1, 0, none⟩ = some (.bool false) := k3.cell 0; have r1 : w1.cell? ⟨w.heap.size + 1 + 1, 1, none⟩ = some (.bool false) := k3.cell 1; have r2 : w1.cell? ⟨w.heap.size + 1 + 1, 2, none⟩ = some (.slice none 0 0) := k3.cell 2; have r3 : w1.cell? ⟨w.heap.size + 1 + 1, 3, none⟩ = some (.int .i64 0) := k3.cell 3; have r4 : w1.cell? ⟨w.heap.size + 1 + 1, 4, none⟩ = some (.int .i64 0) := k3.cell 4; have r5 : w1.cell? ⟨w.heap.size + 1 + 1, 5, none⟩ = some (.bool false) := k3.cell 5; have r6 : w1.cell? ⟨w.heap.size + 1 + 1, 6, none⟩ = some (.int .i64 0) := k3.cell 6; have r7 : w1.cell? ⟨w.heap.size + 1 + 1, 7, none⟩ = some (.int .i64 0) := k3.cell 7; have r8 : w1.cell? ⟨w.heap.size + 1 + 1, 8, none⟩ = some (.int .i64 0) := k3.cell 8; have rf : ∀ i, w1.frozen? ⟨w.heap.size + 1 + 1, i, none⟩ = false := k3.frozen; have HBEL := Lib.hid hbel; clear k1 k2 k3 hbel hb1)
      | (go_at_call 78; refine (strike_any 0 pa pc pn l k gk HGK.out w1 HPN.out (ownsRow_base_a (ownsRow_below HPL.out HBEL.out) (Nat.zero_le _)) hl).mono ?_; rintro e w2 ⟨rfl, n, rfl⟩; rw [← HZ.out]))
    go_region
    all_goals
      go_wp2
      refine bodyPost_ret (v := .tuple #[.agg #[.bool (z == 0), .int .i64 0, .int .i64 z], .agg #[.bool false, .bool false, .slice pa pn pc, .int .i64 (k + 1), .int .i64 (r + 1), .bool true, .int .i64 0, .int .i64 C, .int .i64 I]]) (by simp only [results, Try.results58]; go_simp) rfl ⟨rfl, ?_⟩
      · repeat (first | with_reducible exact HBEL.out | with_reducible refine Below.setCell ?_ (by simp; try omega) _ | with_reducible refine below_drewN ?_ _ | with_reducible refine below_drew1 ?_ | with_reducible refine Below.alloc ?_ (by simp; try omega) _)
  · have HS : Hid (GCells.struck ⟨false, false, pa, pn, pc, k + 1, r + 1, laid, R, C, I⟩ = false) := Lib.hid (by unfold GCells.struck; simpa using hs)
    clear hh hs
    have HGC : Hid (gcells ⟨false, false, pa, pn, pc, k + 1, r + 1, laid, R, C, I⟩ = #[.bool false, .bool false, .slice pa pn pc, .int .i64 (k + 1), .int .i64 (r + 1), .bool laid, .int .i64 R, .int .i64 C, .int .i64 I]) := Lib.hid rfl
    go_enter Try.func58, Try.ntmps58
    go_wp2_with (first
      | (go_at_call 39; rw [← HGC.out]; refine (gstruck_any ⟨false, false, pa, pn, pc, k + 1, r + 1, laid, R, C, I⟩ _).mono ?_; rintro e w1 ⟨rfl, hb1⟩; rw [show GCells.struck ⟨false, false, pa, pn, pc, k + 1, r + 1, laid, R, C, I⟩ = false from HS.out]; obtain ⟨k1, k2, k3, hl1, hbel⟩ := three hb1; have hl0 : w.heap.size < w1.heap.size := (by omega); have hl01 : w.heap.size + 1 < w1.heap.size := (by omega); have g0 : w1.cell? ⟨w.heap.size, 0, none⟩ = some (.bool false) := k1.cell 0; have g1 : w1.cell? ⟨w.heap.size, 1, none⟩ = some (.bool false) := k1.cell 1; have g2 : w1.cell? ⟨w.heap.size, 2, none⟩ = some (.slice pa pn pc) := k1.cell 2; have g3 : w1.cell? ⟨w.heap.size, 3, none⟩ = some (.int .i64 (k + 1)) := k1.cell 3; have g4 : w1.cell? ⟨w.heap.size, 4, none⟩ = some (.int .i64 (r + 1)) := k1.cell 4; have g5 : w1.cell? ⟨w.heap.size, 5, none⟩ = some (.bool laid) := k1.cell 5; have g6 : w1.cell? ⟨w.heap.size, 6, none⟩ = some (.int .i64 R) := k1.cell 6; have g7 : w1.cell? ⟨w.heap.size, 7, none⟩ = some (.int .i64 C) := k1.cell 7; have g8 : w1.cell? ⟨w.heap.size, 8, none⟩ = some (.int .i64 I) := k1.cell 8; have gf : ∀ i, w1.frozen? ⟨w.heap.size, i, none⟩ = false := k1.frozen; have a0 : w1.cell? ⟨w.heap.size + 1, 0, none⟩ = some (.bool false) := k2.cell 0; have a1 : w1.cell? ⟨w.heap.size + 1, 1, none⟩ = some (.int .i64 0) := k2.cell 1; have a2 : w1.cell? ⟨w.heap.size + 1, 2, none⟩ = some (.int .i64 0) := k2.cell 2; have af : ∀ i, w1.frozen? ⟨w.heap.size + 1, i, none⟩ = false := k2.frozen; have r0 : w1.cell? ⟨w.heap.size + 1 + 1, 0, none⟩ = some (.bool false) := k3.cell 0; have r1 : w1.cell? ⟨w.heap.size + 1 + 1, 1, none⟩ = some (.bool false) := k3.cell 1; have r2 : w1.cell? ⟨w.heap.size + 1 + 1, 2, none⟩ = some (.slice none 0 0) := k3.cell 2; have r3 : w1.cell? ⟨w.heap.size + 1 + 1, 3, none⟩ = some (.int .i64 0) := k3.cell 3; have r4 : w1.cell? ⟨w.heap.size + 1 + 1, 4, none⟩ = some (.int .i64 0) := k3.cell 4; have r5 : w1.cell? ⟨w.heap.size + 1 + 1, 5, none⟩ = some (.bool false) := k3.cell 5; have r6 : w1.cell? ⟨w.heap.size + 1 + 1, 6, none⟩ = some (.int .i64 0) := k3.cell 6; have r7 : w1.cell? ⟨w.heap.size + 1 + 1, 7, none⟩ = some (.int .i64 0) := k3.cell 7; have r8 : w1.cell? ⟨w.heap.size + 1 + 1, 8, none⟩ = some (.int .i64 0) := k3.cell 8; have rf : ∀ i, w1.frozen? ⟨w.heap.size + 1 + 1, i, none⟩ = false := k3.frozen; have HBEL := Lib.hid hbel; clear k1 k2 k3 hbel hb1)
      | (go_at_call 78; refine (strike_any 0 pa pc pn l k gk HGK.out w1 HPN.out (ownsRow_base_a (ownsRow_below HPL.out HBEL.out) (Nat.zero_le _)) hl).mono ?_; rintro e w2 ⟨rfl, n, rfl⟩; rw [← HZ.out]))
    go_region
    all_goals
      go_wp2
      refine bodyPost_ret (v := .tuple #[.agg #[.bool (z == 0), .int .i64 0, .int .i64 z], .agg #[.bool false, .bool false, .slice pa pn pc, .int .i64 (k + 1), .int .i64 (r + 1), .bool laid, .int .i64 R, .int .i64 C, .int .i64 I]]) (by simp only [results, Try.results58]; go_simp) rfl ⟨rfl, ?_⟩
      · repeat (first | with_reducible exact HBEL.out | with_reducible refine Below.setCell ?_ (by simp; try omega) _ | with_reducible refine below_drewN ?_ _ | with_reducible refine below_drew1 ?_ | with_reducible refine Below.alloc ?_ (by simp; try omega) _)

set_option maxRecDepth 100000 in
set_option maxHeartbeats 2000000 in
theorem ask_hits (g : GCells) (gk size : Int) (w : World) (hd : g.d = false) (ha : g.a = false) (hh : g.hits = true) (hgk : gk = 1 ∨ gk = 2 ∨ gk = 3) (hs : 0 ≤ size) (hk : 0 ≤ g.k ∧ g.k ≤ 1152921504606846976) (hr : 0 ≤ g.r ∧ g.r ≤ 1152921504606846976) :
    Calls Try.prog 58 #[.agg (gcells g), .int .i64 gk, .int .i64 size] w fun e w' => e = .returned (.tuple #[ansV false (if gk = 2 then max 0 (min g.I size) else 0) 122, .agg (gcells { g.count with d := true })]) ∧ Below w.heap.size w w' := by
  unfold gcells ansV GCells.count
  unfold GCells.hits at hh
  obtain ⟨d, a, pa, pn, pc, k, r, laid, R, C, I⟩ := g
  simp only [Bool.and_eq_true, beq_iff_eq] at hd ha hh hk hr ⊢
  obtain ⟨hk0, hk1⟩ := hk
  obtain ⟨hr0, hr1⟩ := hr
  obtain ⟨⟨rfl, rfl⟩, rfl⟩ := hh
  subst hd ha
  have HGC : Hid (gcells ⟨false, false, pa, pn, pc, k + 1, C + 1, true, 0, C, I⟩ = #[.bool false, .bool false, .slice pa pn pc, .int .i64 (k + 1), .int .i64 (C + 1), .bool true, .int .i64 0, .int .i64 C, .int .i64 I]) := Lib.hid rfl
  rcases hgk with rfl | rfl | rfl
  all_goals
    go_enter Try.func58, Try.ntmps58
    go_wp2_with (first
      | (go_at_call 39; rw [← HGC.out]; refine (gstruck_any ⟨false, false, pa, pn, pc, k + 1, C + 1, true, 0, C, I⟩ _).mono ?_; rintro e w1 ⟨rfl, hb1⟩; rw [show GCells.struck ⟨false, false, pa, pn, pc, k + 1, C + 1, true, 0, C, I⟩ = true from rfl]; obtain ⟨k1, k2, k3, hl1, hbel⟩ := three hb1; have hl0 : w.heap.size < w1.heap.size := (by omega); have hl01 : w.heap.size + 1 < w1.heap.size := (by omega); have g0 : w1.cell? ⟨w.heap.size, 0, none⟩ = some (.bool false) := k1.cell 0; have g1 : w1.cell? ⟨w.heap.size, 1, none⟩ = some (.bool false) := k1.cell 1; have g2 : w1.cell? ⟨w.heap.size, 2, none⟩ = some (.slice pa pn pc) := k1.cell 2; have g3 : w1.cell? ⟨w.heap.size, 3, none⟩ = some (.int .i64 (k + 1)) := k1.cell 3; have g4 : w1.cell? ⟨w.heap.size, 4, none⟩ = some (.int .i64 (C + 1)) := k1.cell 4; have g5 : w1.cell? ⟨w.heap.size, 5, none⟩ = some (.bool true) := k1.cell 5; have g6 : w1.cell? ⟨w.heap.size, 6, none⟩ = some (.int .i64 0) := k1.cell 6; have g7 : w1.cell? ⟨w.heap.size, 7, none⟩ = some (.int .i64 C) := k1.cell 7; have g8 : w1.cell? ⟨w.heap.size, 8, none⟩ = some (.int .i64 I) := k1.cell 8; have gf : ∀ i, w1.frozen? ⟨w.heap.size, i, none⟩ = false := k1.frozen; have a0 : w1.cell? ⟨w.heap.size + 1, 0, none⟩ = some (.bool false) := k2.cell 0; have a1 : w1.cell? ⟨w.heap.size + 1, 1, none⟩ = some (.int .i64 0) := k2.cell 1; have a2 : w1.cell? ⟨w.heap.size + 1, 2, none⟩ = some (.int .i64 0) := k2.cell 2; have af : ∀ i, w1.frozen? ⟨w.heap.size + 1, i, none⟩ = false := k2.frozen; have r0 : w1.cell? ⟨w.heap.size + 1 + 1, 0, none⟩ = some (.bool false) := k3.cell 0; have r1 : w1.cell? ⟨w.heap.size + 1 + 1, 1, none⟩ = some (.bool false) := k3.cell 1; have r2 : w1.cell? ⟨w.heap.size + 1 + 1, 2, none⟩ = some (.slice none 0 0) := k3.cell 2; have r3 : w1.cell? ⟨w.heap.size + 1 + 1, 3, none⟩ = some (.int .i64 0) := k3.cell 3; have r4 : w1.cell? ⟨w.heap.size + 1 + 1, 4, none⟩ = some (.int .i64 0) := k3.cell 4; have r5 : w1.cell? ⟨w.heap.size + 1 + 1, 5, none⟩ = some (.bool false) := k3.cell 5; have r6 : w1.cell? ⟨w.heap.size + 1 + 1, 6, none⟩ = some (.int .i64 0) := k3.cell 6; have r7 : w1.cell? ⟨w.heap.size + 1 + 1, 7, none⟩ = some (.int .i64 0) := k3.cell 7; have r8 : w1.cell? ⟨w.heap.size + 1 + 1, 8, none⟩ = some (.int .i64 0) := k3.cell 8; have rf : ∀ i, w1.frozen? ⟨w.heap.size + 1 + 1, i, none⟩ = false := k3.frozen; have HBEL := Lib.hid hbel; clear k1 k2 k3 hbel hb1))
    go_region
    all_goals
      go_wp2
      refine bodyPost_ret (v := .tuple #[.agg #[.bool false, .int .i64 _, .int .i64 122], .agg #[.bool true, .bool false, .slice pa pn pc, .int .i64 (k + 1), .int .i64 (C + 1), .bool true, .int .i64 0, .int .i64 C, .int .i64 I]]) (by simp only [results, Try.results58]; go_simp; rfl) rfl ⟨?_, ?_⟩
      · first | rfl | simp
      · repeat (first | with_reducible exact HBEL.out | with_reducible refine Below.setCell ?_ (by simp; try omega) _ | with_reducible refine below_drewN ?_ _ | with_reducible refine below_drew1 ?_ | with_reducible refine Below.alloc ?_ (by simp; try omega) _)

theorem hurt8_pass {X Y : Wnd} {S : Drv} {x : PStep} (hk : 1 ≤ x.kind ∧ x.kind ≤ 8) (h : X.struck (gmay x.kind) = (Y, 0, -1)) : hurt8 X S x = (Y, (plain8 S x).1, (plain8 S x).2) := by
  rcases (show x.kind = 1 ∨ x.kind = 2 ∨ x.kind = 3 ∨ x.kind = 4 ∨ x.kind = 5 ∨ x.kind = 6 ∨ x.kind = 7 ∨ x.kind = 8 by omega) with e | e | e | e | e | e | e | e
  · rw [e] at h
    replace h : X.struck true = (Y, 0, -1) := h
    have hh : hurt8 X S x = ((wcall X S true (S.create x.nm)).1, (wcall X S true (S.create x.nm)).2.1, .code (wcall X S true (S.create x.nm)).2.2) := by
      unfold hurt8
      rw [if_pos e]
      repeat rw [if_neg (by omega)]
    have hp : plain8 S x = ((S.create x.nm).1, .code (S.create x.nm).2) := by
      unfold plain8
      rw [if_pos e]
      repeat rw [if_neg (by omega)]
    have hc : wcall X S true (S.create x.nm) = (Y, (S.create x.nm).1, (S.create x.nm).2) := by unfold wcall; rw [h]; rfl
    rw [hh, hp, hc]
  · rw [e] at h
    replace h : X.struck true = (Y, 0, -1) := h
    have hh : hurt8 X S x = ((wappend X S x.nm x.data).1, (wappend X S x.nm x.data).2.1, .code (wappend X S x.nm x.data).2.2) := by
      unfold hurt8
      rw [if_pos e]
      repeat rw [if_neg (by omega)]
    have hp : plain8 S x = ((S.append x.nm x.data).1, .code (S.append x.nm x.data).2) := by
      unfold plain8
      rw [if_pos e]
      repeat rw [if_neg (by omega)]
    have hc : wappend X S x.nm x.data = (Y, (S.append x.nm x.data).1, (S.append x.nm x.data).2) := by unfold wappend; rw [h]; rfl
    rw [hh, hp, hc]
  · rw [e] at h
    replace h : X.struck false = (Y, 0, -1) := h
    have hh : hurt8 X S x = ((wcall X S false (S.sync x.nm)).1, (wcall X S false (S.sync x.nm)).2.1, .code (wcall X S false (S.sync x.nm)).2.2) := by
      unfold hurt8
      rw [if_pos e]
      repeat rw [if_neg (by omega)]
    have hp : plain8 S x = ((S.sync x.nm).1, .code (S.sync x.nm).2) := by
      unfold plain8
      rw [if_pos e]
      repeat rw [if_neg (by omega)]
    have hc : wcall X S false (S.sync x.nm) = (Y, (S.sync x.nm).1, (S.sync x.nm).2) := by unfold wcall; rw [h]; rfl
    rw [hh, hp, hc]
  · rw [e] at h
    replace h : X.struck false = (Y, 0, -1) := h
    have hh : hurt8 X S x = ((wcall X S false (S.rename x.nm x.tn)).1, (wcall X S false (S.rename x.nm x.tn)).2.1, .code (wcall X S false (S.rename x.nm x.tn)).2.2) := by
      unfold hurt8
      rw [if_pos e]
      repeat rw [if_neg (by omega)]
    have hp : plain8 S x = ((S.rename x.nm x.tn).1, .code (S.rename x.nm x.tn).2) := by
      unfold plain8
      rw [if_pos e]
      repeat rw [if_neg (by omega)]
    have hc : wcall X S false (S.rename x.nm x.tn) = (Y, (S.rename x.nm x.tn).1, (S.rename x.nm x.tn).2) := by unfold wcall; rw [h]; rfl
    rw [hh, hp, hc]
  · rw [e] at h
    replace h : X.struck false = (Y, 0, -1) := h
    have hh : hurt8 X S x = ((wcall X S false (S.remove x.nm)).1, (wcall X S false (S.remove x.nm)).2.1, .code (wcall X S false (S.remove x.nm)).2.2) := by
      unfold hurt8
      rw [if_pos e]
      repeat rw [if_neg (by omega)]
    have hp : plain8 S x = ((S.remove x.nm).1, .code (S.remove x.nm).2) := by
      unfold plain8
      rw [if_pos e]
      repeat rw [if_neg (by omega)]
    have hc : wcall X S false (S.remove x.nm) = (Y, (S.remove x.nm).1, (S.remove x.nm).2) := by unfold wcall; rw [h]; rfl
    rw [hh, hp, hc]
  · rw [e] at h
    replace h : X.struck false = (Y, 0, -1) := h
    have hh : hurt8 X S x = ((wcall X S false (S.syncDir, 0)).1, (wcall X S false (S.syncDir, 0)).2.1, .code (wcall X S false (S.syncDir, 0)).2.2) := by
      unfold hurt8
      rw [if_pos e]
      repeat rw [if_neg (by omega)]
    have hp : plain8 S x = (S.syncDir, .code 0) := by
      unfold plain8
      rw [if_pos e]
      repeat rw [if_neg (by omega)]
    have hc : wcall X S false (S.syncDir, 0) = (Y, (S.syncDir, 0).1, (S.syncDir, 0).2) := by unfold wcall; rw [h]; rfl
    rw [hh, hp, hc]
  · rw [e] at h
    replace h : X.struck false = (Y, 0, -1) := h
    have hh : hurt8 X S x = ((wread X (S.read x.nm)).1, S, { Said.none_ with data := (wread X (S.read x.nm)).2.1, e := (wread X (S.read x.nm)).2.2 }) := by
      unfold hurt8
      rw [if_pos e]
      repeat rw [if_neg (by omega)]
    have hp : plain8 S x = (S, { Said.none_ with data := (S.read x.nm).1, e := (S.read x.nm).2 }) := by
      unfold plain8
      rw [if_pos e]
      repeat rw [if_neg (by omega)]
    have hc : wread X (S.read x.nm) = (Y, (S.read x.nm).1, (S.read x.nm).2) := by unfold wread; rw [h]; rfl
    rw [hh, hp, hc]
  · rw [e] at h
    replace h : X.struck false = (Y, 0, -1) := h
    have hh : hurt8 X S x = ((wread X (dnames S.now, (0 : Int))).1, S, { Said.none_ with names := (wread X (dnames S.now, (0 : Int))).2.1, e := (wread X (dnames S.now, (0 : Int))).2.2 }) := by
      unfold hurt8
      rw [if_pos e]
      repeat rw [if_neg (by omega)]
    have hp : plain8 S x = (S, { Said.none_ with names := dnames S.now, e := 0 }) := by
      unfold plain8
      rw [if_pos e]
      repeat rw [if_neg (by omega)]
    have hc : wread X (dnames S.now, (0 : Int)) = (Y, (dnames S.now, (0 : Int)).1, (dnames S.now, (0 : Int)).2) := by unfold wread; rw [h]; rfl
    rw [hh, hp, hc]

theorem hurt8_stop {X Y : Wnd} {S : Drv} {x : PStep} {z part : Int} (hk : 1 ≤ x.kind ∧ x.kind ≤ 8) (h : X.struck (gmay x.kind) = (Y, z, part)) (hz : z ≠ 0) :
    hurt8 X S x = (Y, (if x.kind = 2 ∧ 0 < part ∧ x.data ≠ [] then (S.append x.nm (x.data.take part.toNat)).1 else S), .code z) := by
  rcases (show x.kind = 1 ∨ x.kind = 2 ∨ x.kind = 3 ∨ x.kind = 4 ∨ x.kind = 5 ∨ x.kind = 6 ∨ x.kind = 7 ∨ x.kind = 8 by omega) with e | e | e | e | e | e | e | e
  · rw [e] at h
    replace h : X.struck true = (Y, z, part) := h
    have hh : hurt8 X S x = ((wcall X S true (S.create x.nm)).1, (wcall X S true (S.create x.nm)).2.1, .code (wcall X S true (S.create x.nm)).2.2) := by
      unfold hurt8
      rw [if_pos e]
      repeat rw [if_neg (by omega)]
    have hc : wcall X S true (S.create x.nm) = (Y, S, z) := by unfold wcall; rw [h]; exact if_neg hz
    rw [if_neg (fun h2 => by have := h2.1; omega), hh, hc]
  · rw [e] at h
    replace h : X.struck true = (Y, z, part) := h
    have hh : hurt8 X S x = ((wappend X S x.nm x.data).1, (wappend X S x.nm x.data).2.1, .code (wappend X S x.nm x.data).2.2) := by
      unfold hurt8
      rw [if_pos e]
      repeat rw [if_neg (by omega)]
    have hc : wappend X S x.nm x.data = (Y, (if 0 < part ∧ x.data ≠ [] then (S.append x.nm (x.data.take part.toNat)).1 else S), z) := by
      unfold wappend
      rw [h]
      simp only
      rw [if_neg hz]
      split <;> rfl
    rw [hh, hc]
    by_cases h3 : 0 < part ∧ x.data ≠ []
    · rw [if_pos h3, if_pos ⟨e, h3⟩]
    · rw [if_neg h3, if_neg (fun e => h3 e.2)]
  · rw [e] at h
    replace h : X.struck false = (Y, z, part) := h
    have hh : hurt8 X S x = ((wcall X S false (S.sync x.nm)).1, (wcall X S false (S.sync x.nm)).2.1, .code (wcall X S false (S.sync x.nm)).2.2) := by
      unfold hurt8
      rw [if_pos e]
      repeat rw [if_neg (by omega)]
    have hc : wcall X S false (S.sync x.nm) = (Y, S, z) := by unfold wcall; rw [h]; exact if_neg hz
    rw [if_neg (fun h2 => by have := h2.1; omega), hh, hc]
  · rw [e] at h
    replace h : X.struck false = (Y, z, part) := h
    have hh : hurt8 X S x = ((wcall X S false (S.rename x.nm x.tn)).1, (wcall X S false (S.rename x.nm x.tn)).2.1, .code (wcall X S false (S.rename x.nm x.tn)).2.2) := by
      unfold hurt8
      rw [if_pos e]
      repeat rw [if_neg (by omega)]
    have hc : wcall X S false (S.rename x.nm x.tn) = (Y, S, z) := by unfold wcall; rw [h]; exact if_neg hz
    rw [if_neg (fun h2 => by have := h2.1; omega), hh, hc]
  · rw [e] at h
    replace h : X.struck false = (Y, z, part) := h
    have hh : hurt8 X S x = ((wcall X S false (S.remove x.nm)).1, (wcall X S false (S.remove x.nm)).2.1, .code (wcall X S false (S.remove x.nm)).2.2) := by
      unfold hurt8
      rw [if_pos e]
      repeat rw [if_neg (by omega)]
    have hc : wcall X S false (S.remove x.nm) = (Y, S, z) := by unfold wcall; rw [h]; exact if_neg hz
    rw [if_neg (fun h2 => by have := h2.1; omega), hh, hc]
  · rw [e] at h
    replace h : X.struck false = (Y, z, part) := h
    have hh : hurt8 X S x = ((wcall X S false (S.syncDir, 0)).1, (wcall X S false (S.syncDir, 0)).2.1, .code (wcall X S false (S.syncDir, 0)).2.2) := by
      unfold hurt8
      rw [if_pos e]
      repeat rw [if_neg (by omega)]
    have hc : wcall X S false (S.syncDir, 0) = (Y, S, z) := by unfold wcall; rw [h]; exact if_neg hz
    rw [if_neg (fun h2 => by have := h2.1; omega), hh, hc]
  · rw [e] at h
    replace h : X.struck false = (Y, z, part) := h
    have hh : hurt8 X S x = ((wread X (S.read x.nm)).1, S, { Said.none_ with data := (wread X (S.read x.nm)).2.1, e := (wread X (S.read x.nm)).2.2 }) := by
      unfold hurt8
      rw [if_pos e]
      repeat rw [if_neg (by omega)]
    have hc : wread X (S.read x.nm) = (Y, [], z) := by unfold wread; rw [h]; exact if_neg hz
    rw [if_neg (fun h2 => by have := h2.1; omega), hh, hc]
    rfl
  · rw [e] at h
    replace h : X.struck false = (Y, z, part) := h
    have hh : hurt8 X S x = ((wread X (dnames S.now, (0 : Int))).1, S, { Said.none_ with names := (wread X (dnames S.now, (0 : Int))).2.1, e := (wread X (dnames S.now, (0 : Int))).2.2 }) := by
      unfold hurt8
      rw [if_pos e]
      repeat rw [if_neg (by omega)]
    have hc : wread X (dnames S.now, (0 : Int)) = (Y, [], z) := by unfold wread; rw [h]; exact if_neg hz
    rw [if_neg (fun h2 => by have := h2.1; omega), hh, hc]
    rfl

/-- A gate that says of a wound's calls what the wound itself does. -/
structure GateOf (X : Wnd) (g : GCells) : Prop where
  d : g.d = X.down
  a : g.a = X.away
  pn : g.pn = X.plan.length
  k : g.k = X.calls
  r : g.r = X.round
  some_ : ∀ f, X.fuse = some f → g.laid = true ∧ g.R = f.round ∧ g.C = f.call ∧ g.I = f.inside
  none_ : X.fuse = none → g.laid = false
theorem GateOf.new : GateOf Wnd.new ⟨false, false, none, 0, 0, 0, 0, false, 0, 0, 0⟩ := ⟨rfl, rfl, rfl, rfl, rfl, (fun f h => by cases h), fun _ => rfl⟩
theorem GateOf.struck {X : Wnd} {g : GCells} (h : GateOf X g) : g.struck = X.lit := by
  unfold GCells.struck Wnd.lit
  cases hf : X.fuse with
  | none => rw [h.none_ hf]; rfl
  | some f => obtain ⟨h1, h2, _⟩ := h.some_ f hf; rw [h1, h2]; rfl
theorem GateOf.hits {X : Wnd} {g : GCells} (h : GateOf X g) : g.hits = X.hits := by
  unfold GCells.hits Wnd.hits
  cases hf : X.fuse with
  | none => rw [h.none_ hf]; rfl
  | some f => obtain ⟨h1, h2, h3, _⟩ := h.some_ f hf; rw [h1, h2, h3, h.r]; simp
theorem GateOf.inside {X : Wnd} {g : GCells} (h : GateOf X g) (hh : X.hits = true) : X.inside = max 0 g.I := by
  unfold Wnd.hits at hh
  unfold Wnd.inside
  cases hf : X.fuse with
  | none => rw [hf] at hh; cases hh
  | some f => obtain ⟨_, _, _, h4⟩ := h.some_ f hf; rw [h4]
theorem GateOf.offline {X : Wnd} {g : GCells} (h : GateOf X g) (off : Bool) : GateOf { X with away := off } { g with a := off } := ⟨h.d, rfl, h.pn, h.k, h.r, h.some_, h.none_⟩
theorem GateOf.power {X : Wnd} {g : GCells} (h : GateOf X g) (on : Bool) : GateOf { X with down := !on } { g with d := !on } := ⟨rfl, h.a, h.pn, h.k, h.r, h.some_, h.none_⟩
theorem GateOf.count {X : Wnd} {g : GCells} (h : GateOf X g) : GateOf X.count g.count := ⟨h.d, h.a, h.pn, by show g.k + 1 = _; rw [h.k]; rfl, by show g.r + 1 = _; rw [h.r]; rfl, h.some_, h.none_⟩
theorem GateOf.cut {X : Wnd} {g : GCells} (h : GateOf X g) : GateOf { X.count with down := true } { g.count with d := true } := ⟨rfl, h.a, h.pn, h.count.k, h.count.r, h.some_, h.none_⟩
theorem GateOf.fuse {X : Wnd} {g : GCells} (h : GateOf X g) (x y z : Int) : GateOf (X.setFuse x y z) { g with laid := decide (0 ≤ x), R := x, C := y, I := z } where
  d := h.d
  a := h.a
  pn := h.pn
  k := h.k
  r := h.r
  some_ f hf := by
    unfold Wnd.setFuse at hf
    simp only at hf
    split at hf
    · rename_i h0
      injection hf with hf
      subst hf
      exact ⟨by simpa using h0, rfl, rfl, rfl⟩
    · cases hf
  none_ hf := by
    unfold Wnd.setFuse at hf
    simp only at hf
    split at hf
    · cases hf
    · rename_i h0
      simpa using h0
theorem GateOf.rest {X : Wnd} {g : GCells} (h : GateOf X g) (off : Bool) : GateOf (X.rest off) (g.rest off) where
  d := by unfold GCells.rest Wnd.rest; simp only; rw [h.d]
  a := h.a
  pn := h.pn
  k := h.k
  r := rfl
  some_ f hf := by
    unfold Wnd.rest at hf
    simp only at hf
    split at hf
    · rename_i f0 hf0
      obtain ⟨h1, h2, h3, h4⟩ := h.some_ f0 hf0
      split at hf
      · cases hf
      · rename_i hne
        injection hf with hf
        subst hf
        unfold GCells.rest
        simp only
        rw [h1, h2]
        refine ⟨by simp [hne], by rw [if_pos ⟨rfl, hne⟩], h3, h4⟩
    · cases hf
  none_ hf := by
    unfold Wnd.rest at hf
    simp only at hf
    unfold GCells.rest
    simp only
    split at hf
    · rename_i f0 hf0
      obtain ⟨h1, h2, h3, h4⟩ := h.some_ f0 hf0
      split at hf
      · rename_i h0
        rw [h2, h0]; simp
      · cases hf
    · rename_i hf0
      rw [h.none_ hf0]; rfl
theorem GateOf.arm {X : Wnd} {g : GCells} (h : GateOf X g) (plan : List (Int × Int)) (pa : Option Addr) (pc : Nat) : GateOf (X.arm plan) { g with pa := pa, pn := plan.length, pc := pc, k := 0 } := ⟨h.d, h.a, rfl, rfl, h.r, h.some_, h.none_⟩
theorem GateOf.round {X : Wnd} {g : GCells} (h : GateOf X g) (hX : X.Ok) : g.laid = true → 0 ≤ g.R ∧ g.R ≤ 9223372036854775807 := fun hl => by
  cases hf : X.fuse with
  | none => rw [h.none_ hf] at hl; cases hl
  | some f => obtain ⟨_, h2, _, _⟩ := h.some_ f hf; rw [h2]; exact hX.fuse f hf
end Go.Proofs.Ytdmcjomcbhdcbaa
