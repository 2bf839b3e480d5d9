/- The document's gate: its methods, the blow, what it asks, and the gate of a wound.; What a wound and its drive keep over a call: bounds. No program in sight.; A file written whole: layer 13 over a wound, whatever comes of each call. -/
import Derived.Test.YtdmcjomcbhdcbaaGreatM17
import Derived.IntWalk
import Derived.RegionTactic
import Derived.ChangeAlike
import Derived.Deep.RegionHeld3
import Derived.Test.YtdmcjomcbhdcbaaGreatM11
import Derived.Test.YtdmcjomcbhdcbaaGreatM7
import Derived.Test.YtdmcjomcbhdcbaaGreatM13
set_option linter.unusedVariables false
namespace Go.Proofs.YtdmcjomcbhdcbaaGreat
open Go.RowKit Go.Maps

structure GCells where
  d : Bool
  a : Bool
  pa : Option Addr
  pn : Nat
  pc : Nat
  k : Int
  r : Int
  laid : Bool
  R : Int
  C : Int
  I : Int
def gcells (g : GCells) : Array Value := #[.bool g.d, .bool g.a, .slice g.pa g.pn g.pc, .int .i64 g.k, .int .i64 g.r, .bool g.laid, .int .i64 g.R, .int .i64 g.C, .int .i64 g.I]
def GCells.struck (g : GCells) : Bool := g.laid && g.R == 0

theorem gstruck_any (g : GCells) (w : World) :
    Calls Tryz.prog 80 #[.agg (gcells g)] w fun e w' => e = .returned (.bool g.struck) ∧ Below w.heap.size w w' := by
  unfold gcells GCells.struck
  obtain ⟨d, a, pa, pn, pc, k, r, laid, R, C, I⟩ := g
  cases laid with
  | false =>
    go_enter Tryz.func80, Tryz.ntmps80
    go_wp2
    go_ret
    exact ⟨rfl, (Below.refl _ _).alloc (Nat.le_refl _) _⟩
  | true =>
    go_enter Tryz.func80, Tryz.ntmps80
    go_wp2
    go_ret
    exact ⟨rfl, (Below.refl _ _).alloc (Nat.le_refl _) _⟩

theorem goffline_any (g : GCells) (off : Bool) (w : World) :
    Calls Tryz.prog 59 #[.agg (gcells g), .bool off] w fun e w' => e = .returned (.agg (gcells { g with a := off })) ∧ Below w.heap.size w w' := by
  unfold gcells
  obtain ⟨d, a, pa, pn, pc, k, r, laid, R, C, I⟩ := g
  go_enter Tryz.func59, Tryz.ntmps59
  go_wp2
  refine bodyPost_ret (v := .agg #[.bool d, .bool off, .slice pa pn pc, .int .i64 k, .int .i64 r, .bool laid, .int .i64 R, .int .i64 C, .int .i64 I]) (by simp only [results, Tryz.results59]; go_simp) rfl ⟨rfl, ?_⟩
  exact ((Below.refl _ w).alloc (Nat.le_refl _) _).alloc (by simp) _

theorem gpower_any (g : GCells) (on : Bool) (w : World) :
    Calls Tryz.prog 113 #[.agg (gcells g), .bool on] w fun e w' => e = .returned (.agg (gcells { g with d := !on })) ∧ Below w.heap.size w w' := by
  unfold gcells
  obtain ⟨d, a, pa, pn, pc, k, r, laid, R, C, I⟩ := g
  go_enter Tryz.func113, Tryz.ntmps113
  go_wp2
  refine bodyPost_ret (v := .agg #[.bool (!on), .bool a, .slice pa pn pc, .int .i64 k, .int .i64 r, .bool laid, .int .i64 R, .int .i64 C, .int .i64 I]) (by simp only [results, Tryz.results113]; go_simp) rfl ⟨rfl, ?_⟩
  exact ((Below.refl _ w).alloc (Nat.le_refl _) _).alloc (by simp) _

theorem gfuse_any (g : GCells) (x y z : Int) (w : World) :
    Calls Tryz.prog 61 #[.agg (gcells g), .int .i64 x, .int .i64 y, .int .i64 z] w fun e w' => e = .returned (.agg (gcells { g with laid := decide (0 ≤ x), R := x, C := y, I := z })) ∧ Below w.heap.size w w' := by
  unfold gcells
  obtain ⟨d, a, pa, pn, pc, k, r, laid, R, C, I⟩ := g
  go_enter Tryz.func61, Tryz.ntmps61
  go_wp2
  refine bodyPost_ret (v := .agg #[.bool d, .bool a, .slice pa pn pc, .int .i64 k, .int .i64 r, .bool (decide (0 ≤ x)), .int .i64 x, .int .i64 y, .int .i64 z]) (by simp only [results, Tryz.results61]; go_simp) rfl ⟨rfl, ?_⟩
  exact ((Below.refl _ w).alloc (Nat.le_refl _) _).alloc (by simp) _

def GCells.rest (g : GCells) (off : Bool) : GCells :=
  { g with r := 0, laid := (g.laid && !(g.R == 0)), R := (if g.laid = true ∧ g.R ≠ 0 then g.R - 1 else g.R), d := g.d || off }
theorem grest_any (g : GCells) (off : Bool) (w : World) (hR : g.laid = true → 0 ≤ g.R ∧ g.R ≤ 9223372036854775807) :
    Calls Tryz.prog 112 #[.agg (gcells g), .bool off] w fun e w' => e = .returned (.agg (gcells (g.rest off))) ∧ Below w.heap.size w w' := by
  unfold gcells GCells.rest
  obtain ⟨d, a, pa, pn, pc, k, r, laid, R, C, I⟩ := g
  simp only at hR ⊢
  by_cases h0 : R = 0
  · subst h0
    rw [if_neg (by simp)]
    cases off <;>
    · go_enter Tryz.func112, Tryz.ntmps112
      go_wp2
      refine bodyPost_ret (v := .agg #[.bool _, .bool a, .slice pa pn pc, .int .i64 k, .int .i64 0, .bool false, .int .i64 0, .int .i64 C, .int .i64 I]) (by simp only [results, Tryz.results112]; go_simp; rfl) rfl ⟨?_, ?_⟩
      · simp
      · exact ((Below.refl _ w).alloc (Nat.le_refl _) _).alloc (by simp) _
  · cases laid with
    | false =>
      rw [if_neg (by simp)]
      clear hR
      cases off <;>
      · go_enter Tryz.func112, Tryz.ntmps112
        go_wp2
        refine bodyPost_ret (v := .agg #[.bool _, .bool a, .slice pa pn pc, .int .i64 k, .int .i64 0, .bool false, .int .i64 R, .int .i64 C, .int .i64 I]) (by simp only [results, Tryz.results112]; go_simp; rfl) rfl ⟨?_, ?_⟩
        · simp
        · exact ((Below.refl _ w).alloc (Nat.le_refl _) _).alloc (by simp) _
    | true =>
      obtain ⟨h1, h2⟩ := hR rfl
      clear hR
      have hb : (!(R == 0)) = true := by simp [h0]
      have HB := Lib.hid hb
      have H0 := Lib.hid h0
      have h3 : 1 ≤ R := by omega
      rw [if_pos ⟨rfl, H0.out⟩]
      clear hb h0
      cases off <;>
      · go_enter Tryz.func112, Tryz.ntmps112
        go_wp2
        refine bodyPost_ret (v := .agg #[.bool _, .bool a, .slice pa pn pc, .int .i64 k, .int .i64 0, .bool true, .int .i64 (R - 1), .int .i64 C, .int .i64 I]) (by simp only [results, Tryz.results112]; go_simp; rfl) rfl ⟨?_, ?_⟩
        · simp [H0.out]
        · exact ((Below.refl _ w).alloc (Nat.le_refl _) _).alloc (by simp) _

/-- The gate's number of a call's kind. -/
def gkind (k : Int) : Int := if k = 1 then 1 else if k = 2 then 2 else 3
def gmay (k : Int) : Bool := k == 1 || k == 2

set_option maxRecDepth 100000 in
set_option maxHeartbeats 1000000 in
theorem strike_any (base : Nat) (pa : Option Addr) (pc len : Nat) (l : List (Int × Int)) (num gk : Int) (hgk : gk = 1 ∨ gk = 2 ∨ gk = 3) (w : World) (hlen : len = l.length) (h : w.ownsRow base 181 2 (.slice pa len pc) len (planCells l)) (hl : len ≤ 8796093021952) :
    Calls Tryz.prog 128 #[.slice pa len pc, .int .i64 num, .int .i64 gk] w fun e w' => e = .returned (.int .i64 (Wnd.scan (gmay gk) num l)) ∧ ∃ n, w' = w.drewN n := by
  have HO := Lib.hid h
  have HLEN := Lib.hid hlen
  obtain ⟨may, hmay⟩ : ∃ may, may = gmay gk := ⟨_, rfl⟩
  rw [← hmay]
  obtain ⟨z, hz⟩ : ∃ z, z = Wnd.scan may num l := ⟨_, rfl⟩
  rw [← hz]
  have HZ := Lib.hid hz
  have HMAY := Lib.hid hmay
  clear h hlen hz hmay
  rcases hgk with rfl | rfl | rfl
  all_goals
    go_enter Tryz.func128, Tryz.ntmps128
    go_wp2
    go_loopw [7] (fun s wr => ∃ k : Nat, k ≤ len ∧ s = .int .i64 k ∧ Wnd.scan (may) num (l.drop k) = z ∧ ∃ n, wr = w.drewN n) (fun s _ => len - (intOf s).toNat)
    case atStart => exact ⟨0, Nat.zero_le _, rfl, by rw [HZ.out]; rfl, 0, rfl⟩
    case round =>
      obtain ⟨k, hk, rfl, hsc, m, hm⟩ := hrel
      have HSC := Lib.hid hsc
      have HM := Lib.hid hm
      clear hsc
      by_cases hlt : k < len
      · obtain ⟨f, hfk⟩ : ∃ f, l[k]? = some f := ⟨_, List.getElem?_eq_getElem (by rw [← HLEN.out]; exact hlt)⟩
        obtain ⟨c1, c2⟩ := plan_get _ _ _ hfk
        have hpl := HO.out
        obtain ⟨g, cap, hv, _, hglt⟩ := hpl.form (by omega)
        have hpa : pa = some ⟨g, 0, none⟩ := by injection hv
        subst hpa
        have x1 : wr.cell? ⟨g, k * 2, none⟩ = some (.int .i64 f.1) := by
          have := hpl.cells (g := g) rfl (k * 2) _ c1
          rw [hm]; simpa [add_plain] using this
        have x2 : wr.cell? ⟨g, k * 2 + 1, none⟩ = some (.int .i64 f.2) := by
          have := hpl.cells (g := g) rfl (k * 2 + 1) _ c2
          rw [hm]; simpa [add_plain] using this
        have hdr : l.drop k = f :: l.drop (k + 1) := by
          rw [List.drop_eq_getElem_cons (by rw [← HLEN.out]; exact hlt)]
          congr 1
          rw [List.getElem?_eq_getElem (by rw [← HLEN.out]; exact hlt)] at hfk
          injection hfk
        clear c1 c2 hpl hv hfk hm
        by_cases e1 : f.1 = num
        · have b1 : (f.1 == num) = true := by simp [e1]
          have hz1 : z = if f.2 = 1 then 120 else if f.2 = 2 ∧ may = true then 111 else 0 := by
            have := HSC.out; rw [hdr] at this; unfold Wnd.scan at this; rw [if_pos e1] at this; exact this.symm
          clear hdr
          have HE1 := Lib.hid e1; clear e1
          by_cases e2 : f.2 = 1
          · have b2 : (f.2 == 1) = true := by simp [e2]
            rw [if_pos e2] at hz1
            have HZ1 := Lib.hid hz1; clear hz1 e2
            go_wp2
            go_ret
            exact ⟨by rw [HZ1.out]; exact rfl, m, HM.out⟩
          · have b2 : (f.2 == 1) = false := by simp [e2]
            rw [if_neg e2] at hz1
            clear e2
            by_cases e3 : f.2 = 2
            · have b3 : (f.2 == 2) = true := by simp [e3]
              have HE3 := Lib.hid e3
              have HZ1 := Lib.hid hz1; clear hz1 e3
              go_wp2
              go_ret
              exact ⟨by rw [HZ1.out]; first | (rw [if_pos ⟨HE3.out, HMAY.out⟩]; exact rfl) | (rw [if_neg (by rintro ⟨_, h⟩; rw [HMAY.out] at h; exact absurd h (by decide))]; exact rfl), m, HM.out⟩
            · have b3 : (f.2 == 2) = false := by simp [e3]
              rw [if_neg (by rintro ⟨h, _⟩; exact e3 h)] at hz1
              have HZ1 := Lib.hid hz1; clear hz1 e3
              go_wp2
              go_ret
              exact ⟨by rw [HZ1.out]; exact rfl, m, HM.out⟩
        · have b1 : (f.1 == num) = false := by simp [e1]
          have hz1 : Wnd.scan (may) num (l.drop (k + 1)) = z := by
            have := HSC.out; rw [hdr] at this; unfold Wnd.scan at this; rw [if_neg e1] at this; exact this
          have HZ1 := Lib.hid hz1
          clear hdr hz1 e1
          go_wp2
          go_roundw
          case rel => exact ⟨k + 1, by omega, by go_num, HZ1.out, m, HM.out⟩
          case measure => simp [intOf]; omega
      · have hkl : k = len := by omega
        have hz1 : z = 0 := by have := HSC.out; rw [hkl, HLEN.out, List.drop_length] at this; exact this.symm
        have HZ1 := Lib.hid hz1
        clear hz1 hm
        subst hkl
        go_wp2
        go_ret
        exact ⟨by rw [HZ1.out]; exact rfl, m, HM.out⟩

def GCells.hits (g : GCells) : Bool := g.laid && g.R == 0 && g.C == g.r
def GCells.count (g : GCells) : GCells := { g with k := g.k + 1, r := g.r + 1 }
def ansV (goes : Bool) (bytes err : Int) : Value := .agg #[.bool goes, .int .i64 bytes, .int .i64 err]

/-- Nothing below h has turned, behind allocs, stores above, draws. -/
theorem Below.tail {B : Nat} {w W : World} (h : Below B w W) (hB : B ≤ w.heap.size) : (∀ o, Below B w (W.alloc o)) ∧ Below B w W.drew ∧ ∀ p u, B ≤ p.block → Below B w (W.setCell p u) :=
  ⟨fun o => h.alloc (Nat.le_trans hB h.size) o, below_drewN h 1, fun p u hp => h.setCell hp u⟩

theorem three {w w1 : World} {a b c : Array Value} {t s u : TypeId} (h : Below (((w.alloc (.cells a t)).alloc (.cells b s)).alloc (.cells c u)).heap.size (((w.alloc (.cells a t)).alloc (.cells b s)).alloc (.cells c u)) w1) :
    Blk w1 w.heap.size t a ∧ Blk w1 (w.heap.size + 1) s b ∧ Blk w1 (w.heap.size + 1 + 1) u c ∧ w.heap.size + 1 + 1 < w1.heap.size ∧ Below w.heap.size w w1 := by
  have hs := h.size
  simp only [alloc_size] at hs
  refine ⟨Blk.below (((Blk.new _ _ _).alloc _).alloc _) h (by simp; omega), Blk.below ((blk_last _ _ _ _ (by simp)).alloc _) h (by simp), Blk.below (blk_last _ _ _ _ (by simp)) h (by simp), by omega, ?_⟩
  exact ((((Below.refl _ w).alloc (Nat.le_refl _) _).alloc (by simp) _).alloc (by simp; omega) _).trans (h.mono (by simp; omega))

set_option maxHeartbeats 1000000 in
theorem ask_down (g : GCells) (gk size : Int) (w : World) (hd : g.d = true) :
    Calls Tryz.prog 121 #[.agg (gcells g), .int .i64 gk, .int .i64 size] w fun e w' => e = .returned (.tuple #[ansV false 0 122, .agg (gcells g)]) ∧ Below w.heap.size w w' := by
  unfold gcells ansV
  obtain ⟨d, a, pa, pn, pc, k, r, laid, R, C, I⟩ := g
  simp only at hd
  subst hd
  go_enter Tryz.func121, Tryz.ntmps121
  go_wp2
  go_region
  all_goals
    go_wp2
    refine bodyPost_ret (v := .tuple #[.agg #[.bool false, .int .i64 0, .int .i64 122], .agg #[.bool true, .bool a, .slice pa pn pc, .int .i64 k, .int .i64 r, .bool laid, .int .i64 R, .int .i64 C, .int .i64 I]]) (by simp only [results, Tryz.results121]; go_simp) rfl ⟨rfl, ?_⟩
    first
      | exact (((Below.refl _ w).alloc (Nat.le_refl _) _).alloc (by simp) _).alloc (by simp; omega) _
      | exact below_drewN ((((Below.refl _ w).alloc (Nat.le_refl _) _).alloc (by simp) _).alloc (by simp; omega) _) 1
set_option maxHeartbeats 1000000 in
theorem ask_away (g : GCells) (gk size : Int) (w : World) (hd : g.d = false) (ha : g.a = true) :
    Calls Tryz.prog 121 #[.agg (gcells g), .int .i64 gk, .int .i64 size] w fun e w' => e = .returned (.tuple #[ansV false 0 121, .agg (gcells g)]) ∧ Below w.heap.size w w' := by
  unfold gcells ansV
  obtain ⟨d, a, pa, pn, pc, k, r, laid, R, C, I⟩ := g
  simp only at hd ha
  subst hd ha
  go_enter Tryz.func121, Tryz.ntmps121
  go_wp2
  go_region
  all_goals
    go_wp2
    refine bodyPost_ret (v := .tuple #[.agg #[.bool false, .int .i64 0, .int .i64 121], .agg #[.bool false, .bool true, .slice pa pn pc, .int .i64 k, .int .i64 r, .bool laid, .int .i64 R, .int .i64 C, .int .i64 I]]) (by simp only [results, Tryz.results121]; go_simp) rfl ⟨rfl, ?_⟩
    first
      | exact (((Below.refl _ w).alloc (Nat.le_refl _) _).alloc (by simp) _).alloc (by simp; omega) _
      | exact below_drewN ((((Below.refl _ w).alloc (Nat.le_refl _) _).alloc (by simp) _).alloc (by simp; omega) _) 1
set_option maxRecDepth 100000 in
set_option maxHeartbeats 2000000 in
theorem ask_goes (g : GCells) (gk size : Int) (l : List (Int × Int)) (base : Nat) (w : World) (hd : g.d = false) (ha : g.a = false) (hh : g.hits = false) (hgk : gk = 1 ∨ gk = 2 ∨ gk = 3) (hpn : g.pn = l.length) (hpl : w.ownsRow base 181 2 (.slice g.pa g.pn g.pc) g.pn (planCells l)) (hl : g.pn ≤ 8796093021952) (hk : 0 ≤ g.k ∧ g.k ≤ 1152921504606846976) (hr : 0 ≤ g.r ∧ g.r ≤ 1152921504606846976) :
    Calls Tryz.prog 121 #[.agg (gcells g), .int .i64 gk, .int .i64 size] w fun e w' => e = .returned (.tuple #[ansV (Wnd.scan (gmay gk) g.k l == 0) 0 (Wnd.scan (gmay gk) g.k l), .agg (gcells g.count)]) ∧ Below w.heap.size w w' := by
  unfold gcells ansV GCells.count
  obtain ⟨d, a, pa, pn, pc, k, r, laid, R, C, I⟩ := g
  simp only at hd ha hpn hpl hl hk hr ⊢
  obtain ⟨hk0, hk1⟩ := hk
  obtain ⟨hr0, hr1⟩ := hr
  subst hd ha
  obtain ⟨z, hz⟩ : ∃ z, z = Wnd.scan (gmay gk) k l := ⟨_, rfl⟩
  rw [← hz]
  have HZ := Lib.hid hz
  have HPL := Lib.hid hpl
  have HPN := Lib.hid hpn
  have HGK := Lib.hid hgk
  clear hz hpl hpn hgk
  by_cases hs : (laid && R == 0) = true
  · have hc : (C == r) = false := by
      unfold GCells.hits at hh
      simp only at hh
      rw [hs] at hh
      simpa using hh
    simp only [Bool.and_eq_true, beq_iff_eq] at hs
    obtain ⟨rfl, rfl⟩ := hs
    clear hh
    have HGC : Hid (gcells ⟨false, false, pa, pn, pc, k + 1, r + 1, true, 0, C, I⟩ = #[.bool false, .bool false, .slice pa pn pc, .int .i64 (k + 1), .int .i64 (r + 1), .bool true, .int .i64 0, .int .i64 C, .int .i64 I]) := Lib.hid rfl
    go_enter Tryz.func121, Tryz.ntmps121
    go_wp2_with (first
      | (go_at_call 80; rw [← HGC.out]; refine (gstruck_any ⟨false, false, pa, pn, pc, k + 1, r + 1, true, 0, C, I⟩ _).mono ?_; rintro e w1 ⟨rfl, hb1⟩; rw [show GCells.struck ⟨false, false, pa, pn, pc, k + 1, r + 1, true, 0, C, I⟩ = true from rfl]; obtain ⟨k1, k2, k3, hl1, hbel⟩ := three hb1; have hl0 : w.heap.size < w1.heap.size := (by omega); have hl01 : w.heap.size + 1 < w1.heap.size := (by omega); have g0 : w1.cell? ⟨w.heap.size, 0, none⟩ = some (.bool false) := k1.cell 0; have g1 : w1.cell? ⟨w.heap.size, 1, none⟩ = some (.bool false) := k1.cell 1; have g2 : w1.cell? ⟨w.heap.size, 2, none⟩ = some (.slice pa pn pc) := k1.cell 2; have g3 : w1.cell? ⟨w.heap.size, 3, none⟩ = some (.int .i64 (k + 1)) := k1.cell 3; have g4 : w1.cell? ⟨w.heap.size, 4, none⟩ = some (.int .i64 (r + 1)) := k1.cell 4; have g5 : w1.cell? ⟨w.heap.size, 5, none⟩ = some (.bool true) := k1.cell 5; have g6 : w1.cell? ⟨w.heap.size, 6, none⟩ = some (.int .i64 0) := k1.cell 6; have g7 : w1.cell? ⟨w.heap.size, 7, none⟩ = some (.int .i64 C) := k1.cell 7; have g8 : w1.cell? ⟨w.heap.size, 8, none⟩ = some (.int .i64 I) := k1.cell 8; have gf : ∀ i, w1.frozen? ⟨w.heap.size, i, none⟩ = false := k1.frozen; have a0 : w1.cell? ⟨w.heap.size + 1, 0, none⟩ = some (.bool false) := k2.cell 0; have a1 : w1.cell? ⟨w.heap.size + 1, 1, none⟩ = some (.int .i64 0) := k2.cell 1; have a2 : w1.cell? ⟨w.heap.size + 1, 2, none⟩ = some (.int .i64 0) := k2.cell 2; have af : ∀ i, w1.frozen? ⟨w.heap.size + 1, i, none⟩ = false := k2.frozen; have r0 : w1.cell? ⟨w.heap.size + 1 + 1, 0, none⟩ = some (.bool false) := k3.cell 0; have r1 : w1.cell? ⟨w.heap.size + 1 + 1, 1, none⟩ = some (.bool false) := k3.cell 1; have r2 : w1.cell? ⟨w.heap.size + 1 + 1, 2, none⟩ = some (.slice none 0 0) := k3.cell 2; have r3 : w1.cell? ⟨w.heap.size + 1 + 1, 3, none⟩ = some (.int .i64 0) := k3.cell 3; have r4 : w1.cell? ⟨w.heap.size + 1 + 1, 4, none⟩ = some (.int .i64 0) := k3.cell 4; have r5 : w1.cell? ⟨w.heap.size + 1 + 1, 5, none⟩ = some (.bool false) := k3.cell 5; have r6 : w1.cell? ⟨w.heap.size + 1 + 1, 6, none⟩ = some (.int .i64 0) := k3.cell 6; have r7 : w1.cell? ⟨w.heap.size + 1 + 1, 7, none⟩ = some (.int .i64 0) := k3.cell 7; have r8 : w1.cell? ⟨w.heap.size + 1 + 1, 8, none⟩ = some (.int .i64 0) := k3.cell 8; have rf : ∀ i, w1.frozen? ⟨w.heap.size + 1 + 1, i, none⟩ = false := k3.frozen; have HBEL := Lib.hid hbel; clear k1 k2 k3 hbel hb1)
      | (go_at_call 128; refine (strike_any 0 pa pc pn l k gk HGK.out w1 HPN.out (ownsRow_base_a (ownsRow_below HPL.out HBEL.out) (Nat.zero_le _)) hl).mono ?_; rintro e w2 ⟨rfl, n, rfl⟩; rw [← HZ.out]))
    go_region
    all_goals
      go_wp2
      refine bodyPost_ret (v := .tuple #[.agg #[.bool (z == 0), .int .i64 0, .int .i64 z], .agg #[.bool false, .bool false, .slice pa pn pc, .int .i64 (k + 1), .int .i64 (r + 1), .bool true, .int .i64 0, .int .i64 C, .int .i64 I]]) (by simp only [results, Tryz.results121]; go_simp) rfl ⟨rfl, ?_⟩
      · repeat (first | with_reducible exact HBEL.out | with_reducible refine Below.setCell ?_ (by simp; try omega) _ | with_reducible refine below_drewN ?_ _ | with_reducible refine below_drew1 ?_ | with_reducible refine Below.alloc ?_ (by simp; try omega) _)
  · have HS : Hid (GCells.struck ⟨false, false, pa, pn, pc, k + 1, r + 1, laid, R, C, I⟩ = false) := Lib.hid (by unfold GCells.struck; simpa using hs)
    clear hh hs
    have HGC : Hid (gcells ⟨false, false, pa, pn, pc, k + 1, r + 1, laid, R, C, I⟩ = #[.bool false, .bool false, .slice pa pn pc, .int .i64 (k + 1), .int .i64 (r + 1), .bool laid, .int .i64 R, .int .i64 C, .int .i64 I]) := Lib.hid rfl
    go_enter Tryz.func121, Tryz.ntmps121
    go_wp2_with (first
      | (go_at_call 80; rw [← HGC.out]; refine (gstruck_any ⟨false, false, pa, pn, pc, k + 1, r + 1, laid, R, C, I⟩ _).mono ?_; rintro e w1 ⟨rfl, hb1⟩; rw [show GCells.struck ⟨false, false, pa, pn, pc, k + 1, r + 1, laid, R, C, I⟩ = false from HS.out]; obtain ⟨k1, k2, k3, hl1, hbel⟩ := three hb1; have hl0 : w.heap.size < w1.heap.size := (by omega); have hl01 : w.heap.size + 1 < w1.heap.size := (by omega); have g0 : w1.cell? ⟨w.heap.size, 0, none⟩ = some (.bool false) := k1.cell 0; have g1 : w1.cell? ⟨w.heap.size, 1, none⟩ = some (.bool false) := k1.cell 1; have g2 : w1.cell? ⟨w.heap.size, 2, none⟩ = some (.slice pa pn pc) := k1.cell 2; have g3 : w1.cell? ⟨w.heap.size, 3, none⟩ = some (.int .i64 (k + 1)) := k1.cell 3; have g4 : w1.cell? ⟨w.heap.size, 4, none⟩ = some (.int .i64 (r + 1)) := k1.cell 4; have g5 : w1.cell? ⟨w.heap.size, 5, none⟩ = some (.bool laid) := k1.cell 5; have g6 : w1.cell? ⟨w.heap.size, 6, none⟩ = some (.int .i64 R) := k1.cell 6; have g7 : w1.cell? ⟨w.heap.size, 7, none⟩ = some (.int .i64 C) := k1.cell 7; have g8 : w1.cell? ⟨w.heap.size, 8, none⟩ = some (.int .i64 I) := k1.cell 8; have gf : ∀ i, w1.frozen? ⟨w.heap.size, i, none⟩ = false := k1.frozen; have a0 : w1.cell? ⟨w.heap.size + 1, 0, none⟩ = some (.bool false) := k2.cell 0; have a1 : w1.cell? ⟨w.heap.size + 1, 1, none⟩ = some (.int .i64 0) := k2.cell 1; have a2 : w1.cell? ⟨w.heap.size + 1, 2, none⟩ = some (.int .i64 0) := k2.cell 2; have af : ∀ i, w1.frozen? ⟨w.heap.size + 1, i, none⟩ = false := k2.frozen; have r0 : w1.cell? ⟨w.heap.size + 1 + 1, 0, none⟩ = some (.bool false) := k3.cell 0; have r1 : w1.cell? ⟨w.heap.size + 1 + 1, 1, none⟩ = some (.bool false) := k3.cell 1; have r2 : w1.cell? ⟨w.heap.size + 1 + 1, 2, none⟩ = some (.slice none 0 0) := k3.cell 2; have r3 : w1.cell? ⟨w.heap.size + 1 + 1, 3, none⟩ = some (.int .i64 0) := k3.cell 3; have r4 : w1.cell? ⟨w.heap.size + 1 + 1, 4, none⟩ = some (.int .i64 0) := k3.cell 4; have r5 : w1.cell? ⟨w.heap.size + 1 + 1, 5, none⟩ = some (.bool false) := k3.cell 5; have r6 : w1.cell? ⟨w.heap.size + 1 + 1, 6, none⟩ = some (.int .i64 0) := k3.cell 6; have r7 : w1.cell? ⟨w.heap.size + 1 + 1, 7, none⟩ = some (.int .i64 0) := k3.cell 7; have r8 : w1.cell? ⟨w.heap.size + 1 + 1, 8, none⟩ = some (.int .i64 0) := k3.cell 8; have rf : ∀ i, w1.frozen? ⟨w.heap.size + 1 + 1, i, none⟩ = false := k3.frozen; have HBEL := Lib.hid hbel; clear k1 k2 k3 hbel hb1)
      | (go_at_call 128; refine (strike_any 0 pa pc pn l k gk HGK.out w1 HPN.out (ownsRow_base_a (ownsRow_below HPL.out HBEL.out) (Nat.zero_le _)) hl).mono ?_; rintro e w2 ⟨rfl, n, rfl⟩; rw [← HZ.out]))
    go_region
    all_goals
      go_wp2
      refine bodyPost_ret (v := .tuple #[.agg #[.bool (z == 0), .int .i64 0, .int .i64 z], .agg #[.bool false, .bool false, .slice pa pn pc, .int .i64 (k + 1), .int .i64 (r + 1), .bool laid, .int .i64 R, .int .i64 C, .int .i64 I]]) (by simp only [results, Tryz.results121]; go_simp) rfl ⟨rfl, ?_⟩
      · repeat (first | with_reducible exact HBEL.out | with_reducible refine Below.setCell ?_ (by simp; try omega) _ | with_reducible refine below_drewN ?_ _ | with_reducible refine below_drew1 ?_ | with_reducible refine Below.alloc ?_ (by simp; try omega) _)

set_option maxRecDepth 100000 in
set_option maxHeartbeats 2000000 in
theorem ask_hits (g : GCells) (gk size : Int) (w : World) (hd : g.d = false) (ha : g.a = false) (hh : g.hits = true) (hgk : gk = 1 ∨ gk = 2 ∨ gk = 3) (hs : 0 ≤ size) (hk : 0 ≤ g.k ∧ g.k ≤ 1152921504606846976) (hr : 0 ≤ g.r ∧ g.r ≤ 1152921504606846976) :
    Calls Tryz.prog 121 #[.agg (gcells g), .int .i64 gk, .int .i64 size] w fun e w' => e = .returned (.tuple #[ansV false (if gk = 2 then max 0 (min g.I size) else 0) 122, .agg (gcells { g.count with d := true })]) ∧ Below w.heap.size w w' := by
  unfold gcells ansV GCells.count
  unfold GCells.hits at hh
  obtain ⟨d, a, pa, pn, pc, k, r, laid, R, C, I⟩ := g
  simp only [Bool.and_eq_true, beq_iff_eq] at hd ha hh hk hr ⊢
  obtain ⟨hk0, hk1⟩ := hk
  obtain ⟨hr0, hr1⟩ := hr
  obtain ⟨⟨rfl, rfl⟩, rfl⟩ := hh
  subst hd ha
  have HGC : Hid (gcells ⟨false, false, pa, pn, pc, k + 1, C + 1, true, 0, C, I⟩ = #[.bool false, .bool false, .slice pa pn pc, .int .i64 (k + 1), .int .i64 (C + 1), .bool true, .int .i64 0, .int .i64 C, .int .i64 I]) := Lib.hid rfl
  rcases hgk with rfl | rfl | rfl
  all_goals
    go_enter Tryz.func121, Tryz.ntmps121
    go_wp2_with (first
      | (go_at_call 80; rw [← HGC.out]; refine (gstruck_any ⟨false, false, pa, pn, pc, k + 1, C + 1, true, 0, C, I⟩ _).mono ?_; rintro e w1 ⟨rfl, hb1⟩; rw [show GCells.struck ⟨false, false, pa, pn, pc, k + 1, C + 1, true, 0, C, I⟩ = true from rfl]; obtain ⟨k1, k2, k3, hl1, hbel⟩ := three hb1; have hl0 : w.heap.size < w1.heap.size := (by omega); have hl01 : w.heap.size + 1 < w1.heap.size := (by omega); have g0 : w1.cell? ⟨w.heap.size, 0, none⟩ = some (.bool false) := k1.cell 0; have g1 : w1.cell? ⟨w.heap.size, 1, none⟩ = some (.bool false) := k1.cell 1; have g2 : w1.cell? ⟨w.heap.size, 2, none⟩ = some (.slice pa pn pc) := k1.cell 2; have g3 : w1.cell? ⟨w.heap.size, 3, none⟩ = some (.int .i64 (k + 1)) := k1.cell 3; have g4 : w1.cell? ⟨w.heap.size, 4, none⟩ = some (.int .i64 (C + 1)) := k1.cell 4; have g5 : w1.cell? ⟨w.heap.size, 5, none⟩ = some (.bool true) := k1.cell 5; have g6 : w1.cell? ⟨w.heap.size, 6, none⟩ = some (.int .i64 0) := k1.cell 6; have g7 : w1.cell? ⟨w.heap.size, 7, none⟩ = some (.int .i64 C) := k1.cell 7; have g8 : w1.cell? ⟨w.heap.size, 8, none⟩ = some (.int .i64 I) := k1.cell 8; have gf : ∀ i, w1.frozen? ⟨w.heap.size, i, none⟩ = false := k1.frozen; have a0 : w1.cell? ⟨w.heap.size + 1, 0, none⟩ = some (.bool false) := k2.cell 0; have a1 : w1.cell? ⟨w.heap.size + 1, 1, none⟩ = some (.int .i64 0) := k2.cell 1; have a2 : w1.cell? ⟨w.heap.size + 1, 2, none⟩ = some (.int .i64 0) := k2.cell 2; have af : ∀ i, w1.frozen? ⟨w.heap.size + 1, i, none⟩ = false := k2.frozen; have r0 : w1.cell? ⟨w.heap.size + 1 + 1, 0, none⟩ = some (.bool false) := k3.cell 0; have r1 : w1.cell? ⟨w.heap.size + 1 + 1, 1, none⟩ = some (.bool false) := k3.cell 1; have r2 : w1.cell? ⟨w.heap.size + 1 + 1, 2, none⟩ = some (.slice none 0 0) := k3.cell 2; have r3 : w1.cell? ⟨w.heap.size + 1 + 1, 3, none⟩ = some (.int .i64 0) := k3.cell 3; have r4 : w1.cell? ⟨w.heap.size + 1 + 1, 4, none⟩ = some (.int .i64 0) := k3.cell 4; have r5 : w1.cell? ⟨w.heap.size + 1 + 1, 5, none⟩ = some (.bool false) := k3.cell 5; have r6 : w1.cell? ⟨w.heap.size + 1 + 1, 6, none⟩ = some (.int .i64 0) := k3.cell 6; have r7 : w1.cell? ⟨w.heap.size + 1 + 1, 7, none⟩ = some (.int .i64 0) := k3.cell 7; have r8 : w1.cell? ⟨w.heap.size + 1 + 1, 8, none⟩ = some (.int .i64 0) := k3.cell 8; have rf : ∀ i, w1.frozen? ⟨w.heap.size + 1 + 1, i, none⟩ = false := k3.frozen; have HBEL := Lib.hid hbel; clear k1 k2 k3 hbel hb1))
    go_region
    all_goals
      go_wp2
      refine bodyPost_ret (v := .tuple #[.agg #[.bool false, .int .i64 _, .int .i64 122], .agg #[.bool true, .bool false, .slice pa pn pc, .int .i64 (k + 1), .int .i64 (C + 1), .bool true, .int .i64 0, .int .i64 C, .int .i64 I]]) (by simp only [results, Tryz.results121]; go_simp; rfl) rfl ⟨?_, ?_⟩
      · first | rfl | simp
      · repeat (first | with_reducible exact HBEL.out | with_reducible refine Below.setCell ?_ (by simp; try omega) _ | with_reducible refine below_drewN ?_ _ | with_reducible refine below_drew1 ?_ | with_reducible refine Below.alloc ?_ (by simp; try omega) _)

/-- A gate that says of a wound's calls what the wound itself does. -/
structure GateOf (X : Wnd) (g : GCells) : Prop where
  d : g.d = X.down
  a : g.a = X.away
  pn : g.pn = X.plan.length
  k : g.k = X.calls
  r : g.r = X.round
  some_ : ∀ f, X.fuse = some f → g.laid = true ∧ g.R = f.round ∧ g.C = f.call ∧ g.I = f.inside
  none_ : X.fuse = none → g.laid = false
theorem GateOf.new : GateOf Wnd.new ⟨false, false, none, 0, 0, 0, 0, false, 0, 0, 0⟩ := ⟨rfl, rfl, rfl, rfl, rfl, (fun f h => by cases h), fun _ => rfl⟩
theorem GateOf.struck {X : Wnd} {g : GCells} (h : GateOf X g) : g.struck = X.lit := by
  unfold GCells.struck Wnd.lit
  cases hf : X.fuse with
  | none => rw [h.none_ hf]; rfl
  | some f => obtain ⟨h1, h2, _⟩ := h.some_ f hf; rw [h1, h2]; rfl
theorem GateOf.hits {X : Wnd} {g : GCells} (h : GateOf X g) : g.hits = X.hits := by
  unfold GCells.hits Wnd.hits
  cases hf : X.fuse with
  | none => rw [h.none_ hf]; rfl
  | some f => obtain ⟨h1, h2, h3, _⟩ := h.some_ f hf; rw [h1, h2, h3, h.r]; simp
theorem GateOf.inside {X : Wnd} {g : GCells} (h : GateOf X g) (hh : X.hits = true) : X.inside = max 0 g.I := by
  unfold Wnd.hits at hh
  unfold Wnd.inside
  cases hf : X.fuse with
  | none => rw [hf] at hh; cases hh
  | some f => obtain ⟨_, _, _, h4⟩ := h.some_ f hf; rw [h4]
theorem GateOf.offline {X : Wnd} {g : GCells} (h : GateOf X g) (off : Bool) : GateOf { X with away := off } { g with a := off } := ⟨h.d, rfl, h.pn, h.k, h.r, h.some_, h.none_⟩
theorem GateOf.power {X : Wnd} {g : GCells} (h : GateOf X g) (on : Bool) : GateOf { X with down := !on } { g with d := !on } := ⟨rfl, h.a, h.pn, h.k, h.r, h.some_, h.none_⟩
theorem GateOf.count {X : Wnd} {g : GCells} (h : GateOf X g) : GateOf X.count g.count := ⟨h.d, h.a, h.pn, by show g.k + 1 = _; rw [h.k]; rfl, by show g.r + 1 = _; rw [h.r]; rfl, h.some_, h.none_⟩
theorem GateOf.cut {X : Wnd} {g : GCells} (h : GateOf X g) : GateOf { X.count with down := true } { g.count with d := true } := ⟨rfl, h.a, h.pn, h.count.k, h.count.r, h.some_, h.none_⟩
theorem GateOf.fuse {X : Wnd} {g : GCells} (h : GateOf X g) (x y z : Int) : GateOf (X.setFuse x y z) { g with laid := decide (0 ≤ x), R := x, C := y, I := z } where
  d := h.d
  a := h.a
  pn := h.pn
  k := h.k
  r := h.r
  some_ f hf := by
    unfold Wnd.setFuse at hf
    simp only at hf
    split at hf
    · rename_i h0
      injection hf with hf
      subst hf
      exact ⟨by simpa using h0, rfl, rfl, rfl⟩
    · cases hf
  none_ hf := by
    unfold Wnd.setFuse at hf
    simp only at hf
    split at hf
    · cases hf
    · rename_i h0
      simpa using h0
theorem GateOf.rest {X : Wnd} {g : GCells} (h : GateOf X g) (off : Bool) : GateOf (X.rest off) (g.rest off) where
  d := by unfold GCells.rest Wnd.rest; simp only; rw [h.d]
  a := h.a
  pn := h.pn
  k := h.k
  r := rfl
  some_ f hf := by
    unfold Wnd.rest at hf
    simp only at hf
    split at hf
    · rename_i f0 hf0
      obtain ⟨h1, h2, h3, h4⟩ := h.some_ f0 hf0
      split at hf
      · cases hf
      · rename_i hne
        injection hf with hf
        subst hf
        unfold GCells.rest
        simp only
        rw [h1, h2]
        refine ⟨by simp [hne], by rw [if_pos ⟨rfl, hne⟩], h3, h4⟩
    · cases hf
  none_ hf := by
    unfold Wnd.rest at hf
    simp only at hf
    unfold GCells.rest
    simp only
    split at hf
    · rename_i f0 hf0
      obtain ⟨h1, h2, h3, h4⟩ := h.some_ f0 hf0
      split at hf
      · rename_i h0
        rw [h2, h0]; simp
      · cases hf
    · rename_i hf0
      rw [h.none_ hf0]; rfl
theorem GateOf.arm {X : Wnd} {g : GCells} (h : GateOf X g) (plan : List (Int × Int)) (pa : Option Addr) (pc : Nat) : GateOf (X.arm plan) { g with pa := pa, pn := plan.length, pc := pc, k := 0 } := ⟨h.d, h.a, rfl, rfl, h.r, h.some_, h.none_⟩
theorem GateOf.round {X : Wnd} {g : GCells} (h : GateOf X g) (hX : X.Ok) : g.laid = true → 0 ≤ g.R ∧ g.R ≤ 9223372036854775807 := fun hl => by
  cases hf : X.fuse with
  | none => rw [h.none_ hf] at hl; cases hl
  | some f => obtain ⟨_, h2, _, _⟩ := h.some_ f hf; rw [h2]; exact hX.fuse f hf
end Go.Proofs.YtdmcjomcbhdcbaaGreat
namespace Go.Proofs.YtdmcjomcbhdcbaaGreat
open Go.RowKit Go.Maps

/-- What a wound keeps over k steps. -/
structure Wnd.Okn (X : Wnd) (k : Nat) : Prop where
  calls : 0 ≤ X.calls ∧ X.calls ≤ k
  round : 0 ≤ X.round ∧ X.round ≤ k
  plan : X.plan.length ≤ 8796093021952
  fuse : ∀ f, X.fuse = some f → 0 ≤ f.round ∧ f.round ≤ 9223372036854775807
theorem Wnd.Okn.ok {X : Wnd} {k : Nat} (h : X.Okn k) (hk : k ≤ 1152921504606846976) : X.Ok :=
  ⟨⟨h.calls.1, by have := h.calls.2; omega⟩, ⟨h.round.1, by have := h.round.2; omega⟩, h.plan, h.fuse⟩
theorem Wnd.Okn.mono {X : Wnd} {k m : Nat} (h : X.Okn k) (hkm : k ≤ m) : X.Okn m :=
  ⟨⟨h.calls.1, by have := h.calls.2; omega⟩, ⟨h.round.1, by have := h.round.2; omega⟩, h.plan, h.fuse⟩
theorem Wnd.Okn.new : Wnd.new.Okn 0 := ⟨by decide, by decide, by decide, fun f hf => by cases hf⟩
theorem Wnd.Okn.cnt {X : Wnd} {k : Nat} (h : X.Okn k) (d : Bool) : ({ X.count with down := d } : Wnd).Okn (k + 1) :=
  ⟨⟨by have := h.calls.1; show (0 : Int) ≤ X.calls + 1; omega, by have := h.calls.2; show X.calls + 1 ≤ _; omega⟩, ⟨by have := h.round.1; show (0 : Int) ≤ X.round + 1; omega, by have := h.round.2; show X.round + 1 ≤ _; omega⟩, h.plan, h.fuse⟩
theorem struck_okn {X : Wnd} {k : Nat} (h : X.Okn k) (may : Bool) : (X.struck may).1.Okn (k + 1) := by
  unfold Wnd.struck
  split
  · exact h.mono (by omega)
  · split
    · exact h.mono (by omega)
    · split
      · exact h.cnt true
      · exact h.cnt X.count.down
theorem Wnd.Okn.away {X : Wnd} {k : Nat} (h : X.Okn k) (b : Bool) : ({ X with away := b } : Wnd).Okn k := ⟨h.calls, h.round, h.plan, h.fuse⟩
theorem Wnd.Okn.down {X : Wnd} {k : Nat} (h : X.Okn k) (b : Bool) : ({ X with down := b } : Wnd).Okn k := ⟨h.calls, h.round, h.plan, h.fuse⟩
theorem Wnd.Okn.arm {X : Wnd} {k : Nat} (h : X.Okn k) (l : List (Int × Int)) (hl : l.length ≤ 8796093021952) : (X.arm l).Okn k := ⟨⟨Int.le_refl _, by show (0 : Int) ≤ _; omega⟩, h.round, hl, h.fuse⟩
theorem Wnd.Okn.fused {X : Wnd} {k : Nat} (h : X.Okn k) (r c i : Int) (hr : r ≤ 9223372036854775807) : (X.setFuse r c i).Okn k := by
  refine ⟨h.calls, h.round, h.plan, fun f hf => ?_⟩
  simp only [Wnd.setFuse] at hf
  split at hf
  · injection hf with hf; subst hf; rename_i h0; exact ⟨h0, hr⟩
  · cases hf
theorem Wnd.Okn.rest {X : Wnd} {k : Nat} (h : X.Okn k) (off : Bool) : (X.rest off).Okn k := by
  refine ⟨h.calls, ⟨Int.le_refl _, by show (0 : Int) ≤ _; omega⟩, h.plan, fun f hf => ?_⟩
  unfold Wnd.rest at hf
  cases hx : X.fuse with
  | none => simp [hx] at hf
  | some g =>
    have := h.fuse g hx
    simp only [hx] at hf
    split at hf
    · cases hf
    · injection hf with hf; subst hf
      rename_i h0
      show 0 ≤ g.round - 1 ∧ g.round - 1 ≤ _
      omega

theorem Drv.chAll_room (S : Drv) (c : List Stp) : (S.chAll c).room = S.room := by
  induction c generalizing S with
  | nil => rfl
  | cons s r ih => exact (ih (S.chStp s)).trans rfl
theorem Drv.create_keepsRoom (S : Drv) (s : Nm) : (S.create s).1.room = S.room := by
  unfold Drv.create
  split
  · rfl
  · split
    · rfl
    · exact Drv.chAll_room _ _
theorem Drv.append_keepsRoom (S : Drv) (s : Nm) (d : List UInt8) : (S.append s d).1.room = S.room := by
  unfold Drv.append
  split
  · rfl
  · split
    · rfl
    · split
      · rfl
      · rfl
theorem Drv.sync_keepsRoom (S : Drv) (s : Nm) : (S.sync s).1.room = S.room := by
  unfold Drv.sync
  split
  · rfl
  · rfl
theorem Drv.rename_keepsRoom (S : Drv) (s t : Nm) : (S.rename s t).1.room = S.room := by
  unfold Drv.rename
  split
  · rfl
  · split
    · rfl
    · split
      · rfl
      · exact Drv.chAll_room _ _
theorem Drv.remove_keepsRoom (S : Drv) (s : Nm) : (S.remove s).1.room = S.room := by
  unfold Drv.remove
  split
  · rfl
  · exact Drv.chAll_room _ _

/-- A wound and its drive behind at most so many calls. -/
structure Kept (X : Wnd) (S : Drv) (k N r : Nat) : Prop where
  wnd : X.Okn k
  drv : S.Inv N
  room : S.room = r
theorem Kept.mono {X : Wnd} {S : Drv} {k N r k' N' : Nat} (h : Kept X S k N r) (hk : k ≤ k') (hN : N ≤ N') (hr : N' ≤ 1073741824) : Kept X S k' N' r :=
  ⟨h.wnd.mono hk, h.drv.mono hN (hr), h.room⟩
theorem wcall_kept {X : Wnd} {S : Drv} {k N r : Nat} (h : Kept X S k N r) (may : Bool) (f : Drv × Int) (hf : f.1.Inv (N + 1)) (hfr : f.1.room = S.room) (hr : (N + 1) ≤ 1073741824) :
    Kept (wcall X S may f).1 (wcall X S may f).2.1 (k + 1) (N + 1) r := by
  unfold wcall
  split
  · exact ⟨struck_okn h.wnd may, hf, hfr.trans h.room⟩
  · exact ⟨struck_okn h.wnd may, h.drv.mono (by omega) (hr), h.room⟩
theorem wappend_kept {X : Wnd} {S : Drv} {k N r : Nat} (h : Kept X S k N r) (s : Nm) (bs : List UInt8) (hr : (N + 1) ≤ 1073741824) :
    Kept (wappend X S s bs).1 (wappend X S s bs).2.1 (k + 1) (N + 1) r := by
  unfold wappend
  have hr' : (N + 1) ≤ 1073741824 := hr
  split
  · exact ⟨struck_okn h.wnd true, Drv.append_inv h.drv s bs hr', (Drv.append_keepsRoom S s bs).trans h.room⟩
  · split
    · exact ⟨struck_okn h.wnd true, Drv.append_inv h.drv s _ hr', (Drv.append_keepsRoom S s _).trans h.room⟩
    · exact ⟨struck_okn h.wnd true, h.drv.mono (by omega) hr', h.room⟩
theorem wread_kept {X : Wnd} {S : Drv} {k N r : Nat} {α : Type} (h : Kept X S k N r) (z : List α × Int) (hr : (N + 1) ≤ 1073741824) :
    Kept (wread X z).1 S (k + 1) (N + 1) r := by
  have hr' : (N + 1) ≤ 1073741824 := hr
  unfold wread
  split <;> exact ⟨struck_okn h.wnd false, h.drv.mono (by omega) hr', h.room⟩

/-- The steps of a writing of a file whole, through a wound. -/
def awStep (nm : Nm) (bs : List UInt8) (Z : Wnd × Drv) : Nat → Wnd × Drv × Int
  | 0 => wcall Z.1 Z.2 true (Z.2.create [116])
  | 1 => wappend Z.1 Z.2 [116] bs
  | 2 => wcall Z.1 Z.2 false (Z.2.sync [116])
  | 3 => wcall Z.1 Z.2 false (Z.2.rename [116] nm)
  | _ => wcall Z.1 Z.2 false (Z.2.syncDir, 0)
def awFrom (nm : Nm) (bs : List UInt8) : Nat → Nat → Wnd × Drv → Wnd × Drv × Int
  | 0, _, Z => (Z.1, Z.2, 0)
  | n + 1, k, Z => if (awStep nm bs Z k).2.2 = 0 then awFrom nm bs n (k + 1) ((awStep nm bs Z k).1, (awStep nm bs Z k).2.1) else awStep nm bs Z k
/-- A file written whole, through a wound. -/
def awrite (X : Wnd) (S : Drv) (nm : Nm) (bs : List UInt8) : Wnd × Drv × Int := awFrom nm bs 5 0 (X, S)
theorem awStep_kept {Z : Wnd × Drv} {k N r : Nat} (h : Kept Z.1 Z.2 k N r) (nm : Nm) (bs : List UInt8) (i : Nat) (hr : (N + 1) ≤ 1073741824) :
    Kept (awStep nm bs Z i).1 (awStep nm bs Z i).2.1 (k + 1) (N + 1) r := by
  have hr' : (N + 1) ≤ 1073741824 := hr
  unfold awStep
  split
  · exact wcall_kept h _ _ (Drv.create_inv h.drv _ hr') (Drv.create_keepsRoom _ _) hr
  · exact wappend_kept h _ _ hr
  · exact wcall_kept h _ _ (Drv.sync_inv h.drv _ hr') (Drv.sync_keepsRoom _ _) hr
  · exact wcall_kept h _ _ (Drv.rename_inv h.drv _ _ hr') (Drv.rename_keepsRoom _ _ _) hr
  · exact wcall_kept h _ _ (Drv.syncDir_inv h.drv hr') rfl hr
theorem awFrom_kept (nm : Nm) (bs : List UInt8) : ∀ (n i : Nat) (Z : Wnd × Drv) (k N r : Nat), Kept Z.1 Z.2 k N r → (N + n) ≤ 1073741824 →
    Kept (awFrom nm bs n i Z).1 (awFrom nm bs n i Z).2.1 (k + n) (N + n) r
  | 0, _, _, _, _, _, h, _ => h
  | n + 1, i, Z, k, N, r, h, hr => by
    have h1 : (N + 1) ≤ 1073741824 := by omega
    have hs := awStep_kept h nm bs i h1
    unfold awFrom
    split
    · have := awFrom_kept nm bs n (i + 1) ((awStep nm bs Z i).1, (awStep nm bs Z i).2.1) (k + 1) (N + 1) r hs (by omega)
      rw [show k + (n + 1) = k + 1 + n by omega, show N + (n + 1) = N + 1 + n by omega]
      exact this
    · exact hs.mono (by omega) (by omega) hr
theorem awrite_kept {X : Wnd} {S : Drv} {k N r : Nat} (h : Kept X S k N r) (nm : Nm) (bs : List UInt8) (hr : (N + 5) ≤ 1073741824) :
    Kept (awrite X S nm bs).1 (awrite X S nm bs).2.1 (k + 5) (N + 5) r := awFrom_kept nm bs 5 0 (X, S) k N r h (by omega)
end Go.Proofs.YtdmcjomcbhdcbaaGreat
namespace Go.Proofs.YtdmcjomcbhdcbaaGreat
open Go.RowKit Go.Maps

def bT : ByteArray := ⟨#[116]⟩

set_option maxRecDepth 100000 in
set_option maxHeartbeats 2000000 in
theorem aw1_any (b q p : Nat) (X : Wnd) (S : Drv) (F : Nat → Prop) (w : World) (hd : WD w q p X S F) (hX : X.Ok) (hS : S.Small) (hb : w.cell? ⟨b, 0, none⟩ = some (.iface 40 (.pointer (some ⟨q, 0, none⟩)))) (Y : Wnd) (T : Drv) (x : Int) (hy : wcall X S true (S.create bT.data.toList) = (Y, T, x)) :
    Calls Tryz.prog 39 #[.pointer (some ⟨b, 0, none⟩)] w fun e w' => e = .returned (.int .i64 x) ∧ WD w' q p Y T (grow F w w') ∧ Touch F w w' := by
  have hc := wcreate_any q p X S F bT w (by decide) hd hX hS
  have hy' := hy
  rw [show wcall X S true (S.create bT.data.toList) = (Y, T, x) from hy'] at hc
  have HC := Lib.hid hc
  clear hd hX hS hc hy hy'
  have hm : ∀ W : World, (method 332 40 (.pointer (some ⟨q, 0, none⟩)) "Create").run Tryz.prog W = .ok (163, .pointer (some ⟨q, 0, none⟩)) W := fun _ => by kernel_rfl
  go_enter Tryz.func39, Tryz.ntmps39
  go_wp2_with (go_at_call 163; refine HC.out.mono ?_; rintro e w1 ⟨rfl, h1, h2⟩; have H1 := Lib.hid h1; have H2 := Lib.hid h2; clear h1 h2)
  go_ret
  exact ⟨rfl, H1.out, H2.out⟩

set_option maxRecDepth 100000 in
set_option maxHeartbeats 2000000 in
theorem aw2_any (b b2 q p : Nat) (X : Wnd) (S : Drv) (F : Nat → Prop) (w : World) (hd : WD w q p X S F) (hX : X.Ok) (hS : S.Small) (hb : w.cell? ⟨b, 0, none⟩ = some (.iface 40 (.pointer (some ⟨q, 0, none⟩)))) (A : Option Addr) (c : Nat) (bs : List UInt8) (hb2 : w.cell? ⟨b2, 0, none⟩ = some (.slice A bs.length c)) (hr : Reads w w.heap.size 1 A bs.length (bs.map B8)) (hA : ∀ ad, A = some ad → ¬F ad.block) (hcc : bs.length ≤ c) (hbs : bs.length ≤ 140737488351232) (Y : Wnd) (T : Drv) (x : Int) (hy : wappend X S bT.data.toList bs = (Y, T, x)) :
    Calls Tryz.prog 40 #[.pointer (some ⟨b, 0, none⟩), .pointer (some ⟨b2, 0, none⟩)] w fun e w' => e = .returned (.int .i64 x) ∧ WD w' q p Y T (grow F w w') ∧ Touch F w w' := by
  have hc := wappend_any q p X S F bT w (by decide) A c bs hr hA hcc hbs hd hX hS
  have hy' := hy
  rw [show wappend X S bT.data.toList bs = (Y, T, x) from hy'] at hc
  have HC := Lib.hid hc
  clear hd hX hS hc hy hy' hr hA
  have hm : ∀ W : World, (method 332 40 (.pointer (some ⟨q, 0, none⟩)) "Append").run Tryz.prog W = .ok (162, .pointer (some ⟨q, 0, none⟩)) W := fun _ => by kernel_rfl
  go_enter Tryz.func40, Tryz.ntmps40
  go_wp2_with (go_at_call 162; refine HC.out.mono ?_; rintro e w1 ⟨rfl, h1, h2⟩; have H1 := Lib.hid h1; have H2 := Lib.hid h2; clear h1 h2)
  go_ret
  exact ⟨rfl, H1.out, H2.out⟩

set_option maxRecDepth 100000 in
set_option maxHeartbeats 2000000 in
theorem aw3_any (b q p : Nat) (X : Wnd) (S : Drv) (F : Nat → Prop) (w : World) (hd : WD w q p X S F) (hX : X.Ok) (hS : S.Small) (hb : w.cell? ⟨b, 0, none⟩ = some (.iface 40 (.pointer (some ⟨q, 0, none⟩)))) (Y : Wnd) (T : Drv) (x : Int) (hy : wcall X S false (S.sync bT.data.toList) = (Y, T, x)) :
    Calls Tryz.prog 41 #[.pointer (some ⟨b, 0, none⟩)] w fun e w' => e = .returned (.int .i64 x) ∧ WD w' q p Y T (grow F w w') ∧ Touch F w w' := by
  have hc := wsync_any q p X S F bT w (by decide) hd hX hS
  have hy' := hy
  rw [show wcall X S false (S.sync bT.data.toList) = (Y, T, x) from hy'] at hc
  have HC := Lib.hid hc
  clear hd hX hS hc hy hy'
  have hm : ∀ W : World, (method 332 40 (.pointer (some ⟨q, 0, none⟩)) "Sync").run Tryz.prog W = .ok (167, .pointer (some ⟨q, 0, none⟩)) W := fun _ => by kernel_rfl
  go_enter Tryz.func41, Tryz.ntmps41
  go_wp2_with (go_at_call 167; refine HC.out.mono ?_; rintro e w1 ⟨rfl, h1, h2⟩; have H1 := Lib.hid h1; have H2 := Lib.hid h2; clear h1 h2)
  go_ret
  exact ⟨rfl, H1.out, H2.out⟩

set_option maxRecDepth 100000 in
set_option maxHeartbeats 2000000 in
theorem aw4_any (b b2 q p : Nat) (X : Wnd) (S : Drv) (F : Nat → Prop) (w : World) (hd : WD w q p X S F) (hX : X.Ok) (hS : S.Small) (hb : w.cell? ⟨b, 0, none⟩ = some (.iface 40 (.pointer (some ⟨q, 0, none⟩)))) (nm : ByteArray) (hnm : nm.size ≤ maxLen) (hb2 : w.cell? ⟨b2, 0, none⟩ = some (.string nm)) (Y : Wnd) (T : Drv) (x : Int) (hy : wcall X S false (S.rename bT.data.toList nm.data.toList) = (Y, T, x)) :
    Calls Tryz.prog 42 #[.pointer (some ⟨b, 0, none⟩), .pointer (some ⟨b2, 0, none⟩)] w fun e w' => e = .returned (.int .i64 x) ∧ WD w' q p Y T (grow F w w') ∧ Touch F w w' := by
  have hc := wrename_any q p X S F bT nm w (by decide) hnm hd hX hS
  have hy' := hy
  rw [show wcall X S false (S.rename bT.data.toList nm.data.toList) = (Y, T, x) from hy'] at hc
  have HC := Lib.hid hc
  clear hd hX hS hc hy hy'
  have hm : ∀ W : World, (method 332 40 (.pointer (some ⟨q, 0, none⟩)) "Rename").run Tryz.prog W = .ok (166, .pointer (some ⟨q, 0, none⟩)) W := fun _ => by kernel_rfl
  go_enter Tryz.func42, Tryz.ntmps42
  go_wp2_with (go_at_call 166; refine HC.out.mono ?_; rintro e w1 ⟨rfl, h1, h2⟩; have H1 := Lib.hid h1; have H2 := Lib.hid h2; clear h1 h2)
  go_ret
  exact ⟨rfl, H1.out, H2.out⟩

theorem awFrom_go {nm : Nm} {bs : List UInt8} {n k : Nat} {Z : Wnd × Drv} {Y : Wnd} {T : Drv} (h : awStep nm bs Z k = (Y, T, 0)) : awFrom nm bs (n + 1) k Z = awFrom nm bs n (k + 1) (Y, T) := by
  show (if _ then _ else _) = _
  rw [h, if_pos rfl]
theorem awFrom_stop {nm : Nm} {bs : List UInt8} {n k : Nat} {Z : Wnd × Drv} {Y : Wnd} {T : Drv} {x : Int} (h : awStep nm bs Z k = (Y, T, x)) (hx : x ≠ 0) : awFrom nm bs (n + 1) k Z = (Y, T, x) := by
  show (if _ then _ else _) = _
  rw [h, if_neg hx]
/-- A round of the writing: so many steps went well. -/
structure AwAt (X : World) (q p : Nat) (F : Nat → Prop) (nm : Nm) (bs : List UInt8) (R : Wnd × Drv × Int) (c N r : Nat) (s : Value) (wr : World) : Prop where
  ex : ∃ (k : Nat) (Z : Wnd × Drv), k ≤ 5 ∧ s = .int .i64 k ∧ WD wr q p Z.1 Z.2 (grow F X wr) ∧ Touch F X wr ∧ awFrom nm bs (5 - k) k Z = R ∧ Kept Z.1 Z.2 (c + k) (N + k) r

set_option maxRecDepth 100000 in
set_option maxHeartbeats 20000000 in
theorem awrite_any (q p : Nat) (X : Wnd) (S : Drv) (F : Nat → Prop) (nm : ByteArray) (A : Option Addr) (cap : Nat) (bs : List UInt8) (w : World) (c N r : Nat) (hd : WD w q p X S F) (hF : ∀ k, F k → k < w.heap.size)
    (hlook : ∀ W, Calls Tryz.prog 38 #[.iface 40 (.pointer (some ⟨q, 0, none⟩)), .string nm] W fun e w' => e = .returned (.int .i64 0) ∧ W = w') (hnm : nm.size ≤ maxLen)
    (hr : ∀ W, Touch F w W → Reads W W.heap.size 1 A bs.length (bs.map B8)) (hA : ∀ ad, A = some ad → ad.block < w.heap.size ∧ ¬F ad.block) (hcap : bs.length ≤ cap) (hbs : bs.length ≤ 140737488351232)
    (hk : Kept X S c N r) (hc5 : c + 5 ≤ 1152921504606846976) (hN5 : N + 5 ≤ 2199023254000) (hNr : (N + 5) ≤ 1073741824) (Y : Wnd) (T : Drv) (x : Int) (hy : awrite X S nm.data.toList bs = (Y, T, x)) :
    Calls Tryz.prog 10 #[.iface 40 (.pointer (some ⟨q, 0, none⟩)), .string nm, .slice A bs.length cap] w fun e w' => e = .returned (.int .i64 x) ∧ WD w' q p Y T (grow F w w') ∧ Touch F w w' := by
  have hmf : ∀ (fn : Fn) (first cap : Array Value) (w : World), (Instr.makeFunc fn first cap).run Tryz.prog w = .ok (.func fn first cap) w := fun _ _ _ _ => rfl
  have hm : ∀ W : World, (method 332 40 (.pointer (some ⟨q, 0, none⟩)) "SyncDir").run Tryz.prog W = .ok (168, .pointer (some ⟨q, 0, none⟩)) W := fun _ => by kernel_rfl
  have HD := Lib.hid hd
  have HF := Lib.hid hF
  have HR := Lib.hid hr
  have HA := Lib.hid hA
  have HCAP := Lib.hid hcap
  have HBS := Lib.hid hbs
  have HK := Lib.hid hk
  have HNM := Lib.hid hnm
  have HLO := Lib.hid hlook
  have HC5 := Lib.hid hc5
  have HN5 := Lib.hid hN5
  have HNR := Lib.hid hNr
  have hy' : awFrom nm.data.toList bs 5 0 (X, S) = (Y, T, x) := hy
  have HY := Lib.hid hy'
  clear hd hF hr hA hcap hbs hk hnm hlook hc5 hN5 hNr hy hy'
  go_enter Tryz.func10, Tryz.ntmps10
  go_wp2_with (go_at_call 38; refine (HLO.out _).mono ?_; rintro e w' ⟨rfl, rfl⟩)
  refine wp_world fun W0 hX => ?_
  have HK0 : Hid (Blk W0 w.heap.size 91 #[.iface 40 (.pointer (some ⟨q, 0, none⟩))]) := Lib.hid (by rw [hX]; exact (((Blk.new w _ _).alloc _).alloc _).alloc _)
  have HK1 : Hid (Blk W0 (w.heap.size + 1) 9 #[.string nm]) := Lib.hid (by rw [hX]; exact ((blk_last _ _ _ _ (by simp only [alloc_size])).alloc _).alloc _)
  have HK2 : Hid (Blk W0 (w.heap.size + 1 + 1) 26 #[.slice A bs.length cap]) := Lib.hid (by rw [hX]; exact (blk_last _ _ _ _ (by simp only [alloc_size])).alloc _)
  have HK3 : Hid (Blk W0 (w.heap.size + 1 + 1 + 1) 93 #[.func (.func 39) #[] #[.pointer (some ⟨w.heap.size, 0, none⟩)], .func (.func 40) #[] #[.pointer (some ⟨w.heap.size, 0, none⟩), .pointer (some ⟨w.heap.size + 1 + 1, 0, none⟩)], .func (.func 41) #[] #[.pointer (some ⟨w.heap.size, 0, none⟩)], .func (.func 42) #[] #[.pointer (some ⟨w.heap.size, 0, none⟩), .pointer (some ⟨w.heap.size + 1, 0, none⟩)], .func (.method "SyncDir") #[.iface 40 (.pointer (some ⟨q, 0, none⟩))] #[]]) := Lib.hid (by rw [hX]; exact blk_last _ _ _ _ (by simp only [alloc_size]))
  have HBX : Hid (Below w.heap.size w W0) := Lib.hid (by rw [hX]; exact ((((Below.refl _ w).alloc (Nat.le_refl _) _).alloc (by simp only [alloc_size]; omega) _).alloc (by simp only [alloc_size]; omega) _).alloc (by simp only [alloc_size]; omega) _)
  have HXS : Hid (w.heap.size ≤ W0.heap.size) := Lib.hid HBX.out.size
  clear hX
  have HN : Hid (∀ i, w.heap.size ≤ i → ¬F i) := Lib.hid fun i hi hf => by have := HF.out i hf; omega
  have HWT : Hid (∀ W, Touch F W0 W → Touch F w W) := Lib.hid fun W h => (Touch.of_below HBX.out).trans (h.mono fun i _ hi => .inl hi)
  have HFI : Hid (∀ W, Touch F W0 W → ∀ i, grow F W0 W i → grow F w W i) := Lib.hid fun W ht i hi => by
    rcases hi with hi | ⟨h1, h2⟩
    · exact .inl hi
    · exact .inr ⟨Nat.le_trans HXS.out h1, h2⟩
  go_loopw [9, 10, 26] (fun _ _ s26 wr => AwAt W0 q p F nm.data.toList bs (Y, T, x) c N r s26 wr) (fun _ _ s _ => 5 - (intOf s).toNat)
  case atStart => exact ⟨0, (X, S), Nat.zero_le _, rfl, (WD.below HD.out HBX.out).mono fun i hi => .inl hi, Touch.refl _ _, HY.out, HK.out⟩
  case round =>
    obtain ⟨k, Z, hk, rfl, hd, ht, hz, hkp⟩ := hrel.ex
    clear hrel
    have HD1 := Lib.hid hd
    have HT1 := Lib.hid ht
    have HZ := Lib.hid hz
    have HKP := Lib.hid hkp
    have HOKX : Hid Z.1.Ok := Lib.hid (hkp.wnd.ok (by have := HC5.out; omega))
    have HSM : Hid Z.2.Small := Lib.hid (hkp.drv.small (by have := HN5.out; omega))
    have hsz := ht.size
    have c0 : wr.cell? ⟨w.heap.size, 0, none⟩ = some (.iface 40 (.pointer (some ⟨q, 0, none⟩))) := (HK0.out.touch ht (HN.out _ (by omega))).cell 0
    have c1 : wr.cell? ⟨w.heap.size + 1, 0, none⟩ = some (.string nm) := (HK1.out.touch ht (HN.out _ (by omega))).cell 0
    have c2 : wr.cell? ⟨w.heap.size + 1 + 1, 0, none⟩ = some (.slice A bs.length cap) := (HK2.out.touch ht (HN.out _ (by omega))).cell 0
    have HK3r := Lib.hid (HK3.out.touch ht (HN.out _ (by omega)))
    have HC0 := Lib.hid c0
    have HC1 := Lib.hid c1
    have HC2 := Lib.hid c2
    clear hd ht c0 c1 c2 hz hkp
    by_cases hlt : k < 5
    · obtain rfl | rfl | rfl | rfl | rfl : k = 0 ∨ k = 1 ∨ k = 2 ∨ k = 3 ∨ k = 4 := by omega
      · have y : wr.cell? ⟨w.heap.size + 1 + 1 + 1, 0, none⟩ = some (.func (.func 39) #[] #[.pointer (some ⟨w.heap.size, 0, none⟩)]) := HK3r.out.cell 0
        obtain ⟨Y1, T1, x1, h1⟩ : ∃ Y1 T1 x1, awStep nm.data.toList bs Z 0 = (Y1, T1, x1) := ⟨_, _, _, rfl⟩
        have HST := Lib.hid h1
        have HKN : Hid (Kept Y1 T1 (c + 1) (N + 1) r) := Lib.hid (by
          have := awStep_kept HKP.out nm.data.toList bs 0 ((by have := HNR.out; omega))
          rw [h1] at this
          exact this)
        clear h1
        by_cases hx1 : x1 = 0
        · subst hx1
          have HGO := Lib.hid (awFrom_go (n := 4) HST.out)
          go_wp2_with (go_at_call 39; refine (aw1_any w.heap.size q p Z.1 Z.2 _ wr HD1.out HOKX.out HSM.out HC0.out Y1 T1 0 HST.out).mono ?_; rintro e w1 ⟨rfl, hd1, ht1⟩; have HD2 := Lib.hid hd1; have HT2 := Lib.hid ht1; clear hd1 ht1)
          go_roundw
          case rel => exact ⟨1, (Y1, T1), by omega, by go_num, HD2.out.mono fun i hi => (grow_trans hsz HT2.out.size i).1 hi, HT1.out.trans HT2.out, HGO.out.symm.trans HZ.out, HKN.out⟩
          case measure => first | (simp [intOf]; done) | (simp [intOf]; omega)
        · have HGO := Lib.hid ((awFrom_stop (n := 4) HST.out hx1).symm.trans HZ.out)
          have hx2 : (x1 != 0) = true := by simp [hx1]
          clear hx1
          go_wp2_with (go_at_call 39; refine (aw1_any w.heap.size q p Z.1 Z.2 _ wr HD1.out HOKX.out HSM.out HC0.out Y1 T1 x1 HST.out).mono ?_; rintro e w1 ⟨rfl, hd1, ht1⟩; have HD2 := Lib.hid hd1; have HT2 := Lib.hid ht1; clear hd1 ht1)
          go_ret
          have hT := HT1.out.trans HT2.out
          have e1 := HGO.out
          injection e1 with e1 e2
          injection e2 with e2 e3
          subst e1 e2 e3
          exact ⟨rfl, HD2.out.mono fun i hi => HFI.out _ hT i ((grow_trans hsz HT2.out.size i).1 hi), HWT.out _ hT⟩
      · have y : wr.cell? ⟨w.heap.size + 1 + 1 + 1, 1, none⟩ = some (.func (.func 40) #[] #[.pointer (some ⟨w.heap.size, 0, none⟩), .pointer (some ⟨w.heap.size + 1 + 1, 0, none⟩)]) := HK3r.out.cell 1
        obtain ⟨Y1, T1, x1, h1⟩ : ∃ Y1 T1 x1, awStep nm.data.toList bs Z 1 = (Y1, T1, x1) := ⟨_, _, _, rfl⟩
        have HST := Lib.hid h1
        have HKN : Hid (Kept Y1 T1 (c + 2) (N + 2) r) := Lib.hid (by
          have := awStep_kept HKP.out nm.data.toList bs 1 ((by have := HNR.out; omega))
          rw [h1] at this
          exact this)
        clear h1
        by_cases hx1 : x1 = 0
        · subst hx1
          have HGO := Lib.hid (awFrom_go (n := 3) HST.out)
          go_wp2_with (go_at_call 40; refine (aw2_any w.heap.size (w.heap.size + 1 + 1) q p Z.1 Z.2 _ wr HD1.out HOKX.out HSM.out HC0.out A cap bs HC2.out (HR.out wr (HWT.out wr HT1.out)) (fun ad e hf => by have h1 := HA.out ad e; rcases hf with hf | ⟨h2, _⟩; exact h1.2 hf; have h3 := HXS.out; omega) HCAP.out HBS.out Y1 T1 0 HST.out).mono ?_; rintro e w1 ⟨rfl, hd1, ht1⟩; have HD2 := Lib.hid hd1; have HT2 := Lib.hid ht1; clear hd1 ht1)
          go_roundw
          case rel => exact ⟨2, (Y1, T1), by omega, by go_num, HD2.out.mono fun i hi => (grow_trans hsz HT2.out.size i).1 hi, HT1.out.trans HT2.out, HGO.out.symm.trans HZ.out, HKN.out⟩
          case measure => first | (simp [intOf]; done) | (simp [intOf]; omega)
        · have HGO := Lib.hid ((awFrom_stop (n := 3) HST.out hx1).symm.trans HZ.out)
          have hx2 : (x1 != 0) = true := by simp [hx1]
          clear hx1
          go_wp2_with (go_at_call 40; refine (aw2_any w.heap.size (w.heap.size + 1 + 1) q p Z.1 Z.2 _ wr HD1.out HOKX.out HSM.out HC0.out A cap bs HC2.out (HR.out wr (HWT.out wr HT1.out)) (fun ad e hf => by have h1 := HA.out ad e; rcases hf with hf | ⟨h2, _⟩; exact h1.2 hf; have h3 := HXS.out; omega) HCAP.out HBS.out Y1 T1 x1 HST.out).mono ?_; rintro e w1 ⟨rfl, hd1, ht1⟩; have HD2 := Lib.hid hd1; have HT2 := Lib.hid ht1; clear hd1 ht1)
          go_ret
          have hT := HT1.out.trans HT2.out
          have e1 := HGO.out
          injection e1 with e1 e2
          injection e2 with e2 e3
          subst e1 e2 e3
          exact ⟨rfl, HD2.out.mono fun i hi => HFI.out _ hT i ((grow_trans hsz HT2.out.size i).1 hi), HWT.out _ hT⟩
      · have y : wr.cell? ⟨w.heap.size + 1 + 1 + 1, 2, none⟩ = some (.func (.func 41) #[] #[.pointer (some ⟨w.heap.size, 0, none⟩)]) := HK3r.out.cell 2
        obtain ⟨Y1, T1, x1, h1⟩ : ∃ Y1 T1 x1, awStep nm.data.toList bs Z 2 = (Y1, T1, x1) := ⟨_, _, _, rfl⟩
        have HST := Lib.hid h1
        have HKN : Hid (Kept Y1 T1 (c + 3) (N + 3) r) := Lib.hid (by
          have := awStep_kept HKP.out nm.data.toList bs 2 ((by have := HNR.out; omega))
          rw [h1] at this
          exact this)
        clear h1
        by_cases hx1 : x1 = 0
        · subst hx1
          have HGO := Lib.hid (awFrom_go (n := 2) HST.out)
          go_wp2_with (go_at_call 41; refine (aw3_any w.heap.size q p Z.1 Z.2 _ wr HD1.out HOKX.out HSM.out HC0.out Y1 T1 0 HST.out).mono ?_; rintro e w1 ⟨rfl, hd1, ht1⟩; have HD2 := Lib.hid hd1; have HT2 := Lib.hid ht1; clear hd1 ht1)
          go_roundw
          case rel => exact ⟨3, (Y1, T1), by omega, by go_num, HD2.out.mono fun i hi => (grow_trans hsz HT2.out.size i).1 hi, HT1.out.trans HT2.out, HGO.out.symm.trans HZ.out, HKN.out⟩
          case measure => first | (simp [intOf]; done) | (simp [intOf]; omega)
        · have HGO := Lib.hid ((awFrom_stop (n := 2) HST.out hx1).symm.trans HZ.out)
          have hx2 : (x1 != 0) = true := by simp [hx1]
          clear hx1
          go_wp2_with (go_at_call 41; refine (aw3_any w.heap.size q p Z.1 Z.2 _ wr HD1.out HOKX.out HSM.out HC0.out Y1 T1 x1 HST.out).mono ?_; rintro e w1 ⟨rfl, hd1, ht1⟩; have HD2 := Lib.hid hd1; have HT2 := Lib.hid ht1; clear hd1 ht1)
          go_ret
          have hT := HT1.out.trans HT2.out
          have e1 := HGO.out
          injection e1 with e1 e2
          injection e2 with e2 e3
          subst e1 e2 e3
          exact ⟨rfl, HD2.out.mono fun i hi => HFI.out _ hT i ((grow_trans hsz HT2.out.size i).1 hi), HWT.out _ hT⟩
      · have y : wr.cell? ⟨w.heap.size + 1 + 1 + 1, 3, none⟩ = some (.func (.func 42) #[] #[.pointer (some ⟨w.heap.size, 0, none⟩), .pointer (some ⟨w.heap.size + 1, 0, none⟩)]) := HK3r.out.cell 3
        obtain ⟨Y1, T1, x1, h1⟩ : ∃ Y1 T1 x1, awStep nm.data.toList bs Z 3 = (Y1, T1, x1) := ⟨_, _, _, rfl⟩
        have HST := Lib.hid h1
        have HKN : Hid (Kept Y1 T1 (c + 4) (N + 4) r) := Lib.hid (by
          have := awStep_kept HKP.out nm.data.toList bs 3 ((by have := HNR.out; omega))
          rw [h1] at this
          exact this)
        clear h1
        by_cases hx1 : x1 = 0
        · subst hx1
          have HGO := Lib.hid (awFrom_go (n := 1) HST.out)
          go_wp2_with (go_at_call 42; refine (aw4_any w.heap.size (w.heap.size + 1) q p Z.1 Z.2 _ wr HD1.out HOKX.out HSM.out HC0.out nm HNM.out HC1.out Y1 T1 0 HST.out).mono ?_; rintro e w1 ⟨rfl, hd1, ht1⟩; have HD2 := Lib.hid hd1; have HT2 := Lib.hid ht1; clear hd1 ht1)
          go_roundw
          case rel => exact ⟨4, (Y1, T1), by omega, by go_num, HD2.out.mono fun i hi => (grow_trans hsz HT2.out.size i).1 hi, HT1.out.trans HT2.out, HGO.out.symm.trans HZ.out, HKN.out⟩
          case measure => first | (simp [intOf]; done) | (simp [intOf]; omega)
        · have HGO := Lib.hid ((awFrom_stop (n := 1) HST.out hx1).symm.trans HZ.out)
          have hx2 : (x1 != 0) = true := by simp [hx1]
          clear hx1
          go_wp2_with (go_at_call 42; refine (aw4_any w.heap.size (w.heap.size + 1) q p Z.1 Z.2 _ wr HD1.out HOKX.out HSM.out HC0.out nm HNM.out HC1.out Y1 T1 x1 HST.out).mono ?_; rintro e w1 ⟨rfl, hd1, ht1⟩; have HD2 := Lib.hid hd1; have HT2 := Lib.hid ht1; clear hd1 ht1)
          go_ret
          have hT := HT1.out.trans HT2.out
          have e1 := HGO.out
          injection e1 with e1 e2
          injection e2 with e2 e3
          subst e1 e2 e3
          exact ⟨rfl, HD2.out.mono fun i hi => HFI.out _ hT i ((grow_trans hsz HT2.out.size i).1 hi), HWT.out _ hT⟩
      · have y : wr.cell? ⟨w.heap.size + 1 + 1 + 1, 4, none⟩ = some (.func (.method "SyncDir") #[.iface 40 (.pointer (some ⟨q, 0, none⟩))] #[]) := HK3r.out.cell 4
        obtain ⟨Y1, T1, x1, h1⟩ : ∃ Y1 T1 x1, awStep nm.data.toList bs Z 4 = (Y1, T1, x1) := ⟨_, _, _, rfl⟩
        have HST := Lib.hid h1
        have HKN : Hid (Kept Y1 T1 (c + 5) (N + 5) r) := Lib.hid (by
          have := awStep_kept HKP.out nm.data.toList bs 4 ((by have := HNR.out; omega))
          rw [h1] at this
          exact this)
        clear h1
        have HSD : Hid (Calls Tryz.prog 168 #[.pointer (some ⟨q, 0, none⟩)] wr fun e w' => e = .returned (.int .i64 x1) ∧ WD w' q p Y1 T1 (grow (grow F W0 wr) wr w') ∧ Touch (grow F W0 wr) wr w') := Lib.hid (by
          have := wsyncDir_any q p Z.1 Z.2 _ wr HD1.out HOKX.out HSM.out
          rw [show wcall Z.1 Z.2 false (Z.2.syncDir, 0) = (Y1, T1, x1) from HST.out] at this
          exact this)
        by_cases hx1 : x1 = 0
        · subst hx1
          have HGO := Lib.hid (awFrom_go (n := 0) HST.out)
          go_wp2_with (go_at_call 168; refine HSD.out.mono ?_; rintro e w1 ⟨rfl, hd1, ht1⟩; have HD2 := Lib.hid hd1; have HT2 := Lib.hid ht1; clear hd1 ht1)
          go_roundw
          case rel => exact ⟨5, (Y1, T1), by omega, by go_num, HD2.out.mono fun i hi => (grow_trans hsz HT2.out.size i).1 hi, HT1.out.trans HT2.out, HGO.out.symm.trans HZ.out, HKN.out⟩
          case measure => first | (simp [intOf]; done) | (simp [intOf]; omega)
        · have HGO := Lib.hid ((awFrom_stop (n := 0) HST.out hx1).symm.trans HZ.out)
          have hx2 : (x1 != 0) = true := by simp [hx1]
          clear hx1
          go_wp2_with (go_at_call 168; refine HSD.out.mono ?_; rintro e w1 ⟨rfl, hd1, ht1⟩; have HD2 := Lib.hid hd1; have HT2 := Lib.hid ht1; clear hd1 ht1)
          go_ret
          have hT := HT1.out.trans HT2.out
          have e1 := HGO.out
          injection e1 with e1 e2
          injection e2 with e2 e3
          subst e1 e2 e3
          exact ⟨rfl, HD2.out.mono fun i hi => HFI.out _ hT i ((grow_trans hsz HT2.out.size i).1 hi), HWT.out _ hT⟩
    · obtain rfl : k = 5 := by omega
      have e1 : (Z.1, Z.2, (0 : Int)) = (Y, T, x) := HZ.out
      injection e1 with e1 e2
      injection e2 with e2 e3
      subst e1 e2 e3
      go_wp2
      go_ret
      exact ⟨rfl, HD1.out.mono fun i hi => HFI.out _ HT1.out i hi, HWT.out wr HT1.out⟩
end Go.Proofs.YtdmcjomcbhdcbaaGreat
