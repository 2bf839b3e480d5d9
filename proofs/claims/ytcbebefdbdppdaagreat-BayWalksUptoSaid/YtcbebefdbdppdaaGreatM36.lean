/- Bits turned within 32 places: the pattern, and what the drive shows behind a Flip. No program in sight.; cairnlaw14.BaySpoilt: the walk.; A shard that comes in, opened. -/
import Derived.Test.YtcbebefdbdppdaaGreatM30
import Derived.Test.YtcbebefdbdppdaaGreatM35
import Derived.Test.YtcbebefdbdppdaaGreatM34
import Derived.Lib.SmallJoins
import Derived.Deep.Strs
import Derived.OpenShut
import Derived.Deep.Slices
import Derived.Deep.Fields
import Derived.ChangeArms
import Derived.SizedLaws
namespace Go.Proofs.YtcbebefdbdppdaaGreat
open Go.RowKit Go.Maps
def bitB (m : Nat) : UInt8 := UInt8.ofNat (2 ^ (m % 8))
def turnS (n bit P : Nat) : Nat → List UInt8
  | 0 => List.replicate n 0
  | k + 1 => if P.testBit k = true ∧ (bit + k) / 8 < n then (turnS n bit P k).set ((bit + k) / 8) ((turnS n bit P k).getD ((bit + k) / 8) 0 ^^^ bitB (bit + k)) else turnS n bit P k
def anyS (n bit P : Nat) : Nat → Bool
  | 0 => false
  | k + 1 => if P.testBit k = true ∧ (bit + k) / 8 < n then true else anyS n bit P k
def headS (n bit P H : Nat) : Nat → Bool
  | 0 => false
  | k + 1 => if P.testBit k = true ∧ (bit + k) / 8 < n then headS n bit P H k || decide ((bit + k) / 8 < H) else headS n bit P H k
end Go.Proofs.YtcbebefdbdppdaaGreat
namespace Go.Proofs.YtcbebefdbdppdaaGreat
open Go.RowKit Go.Maps
theorem BlksAt.more {w : World} {B B' n : Nat} {A : Option Addr} {l : List (List UInt8)} (h : BlksAt w B A n l) (hB : B ≤ B') : BlksAt w B' A n l := by
  obtain ⟨vs, h1, h2⟩ := h.rows
  exact ⟨h.len, vs, h1.more hB, fun j x hx => by obtain ⟨A', c', e, hr⟩ := h2 j x hx; exact ⟨A', c', e, hr.more hB⟩⟩
end Go.Proofs.YtcbebefdbdppdaaGreat
namespace Go.Proofs.YtcbebefdbdppdaaGreat
open Go.ChangeShapes Go.WideShapes Go.ChangeAt Go.RowKit Go.Maps
theorem u8_ofS {n : Int} (h0 : 0 ≤ n) (h1 : n ≤ 255) : ∃ a : UInt8, n = (a.toNat : Int) := ⟨UInt8.ofNat n.toNat, by rw [UInt8.toNat_ofNat']; omega⟩
theorem mapM_some_of {α β : Type} {f : α → Option β} : ∀ {l : List α} {ys : List β}, l.mapM f = some ys → ∀ x ∈ l, ∃ y, f x = some y
  | [], _, _, x, hx => by simp at hx
  | a :: l, ys, h, x, hx => by
    rw [List.mapM_cons] at h
    cases ha : f a with
    | none => rw [ha] at h; simp at h
    | some b =>
      rw [ha] at h
      cases hl : l.mapM f with
      | none => rw [hl] at h; simp at h
      | some bs =>
        rcases List.mem_cons.1 hx with rfl | hx
        · exact ⟨b, ha⟩
        · exact mapM_some_of hl x hx
section
variable {H : Type} {enc : TypeId × Value → H} {w : World} {base : Nat} {spare : Nat → Bool} {held : Bool}
theorem trod_byte {fuel : Nat} {v : Value} {y : DataW H × List MemPlace} (h : DataW.trod enc Tryz.prog w base spare held fuel 5 [v] = some y) : ∃ a : UInt8, v = .int .u8 (a.toNat : Int) := by
  obtain ⟨n, hv, _, hw⟩ := DataW.trod_int Tryz.underlying5 h
  injection hv with hv
  have h2 : 0 ≤ n ∧ n ≤ 255 := by
    have hmin : IntKind.u8.min = 0 := rfl
    have hmax : IntKind.u8.max = 255 := rfl
    simp only [Lit.wf, Bool.and_eq_true, decide_eq_true_eq, hmin, hmax] at hw
    exact hw
  obtain ⟨a, rfl⟩ := u8_ofS h2.1 h2.2
  exact ⟨a, hv⟩
theorem trod_i64 {fuel : Nat} {v : Value} {y : DataW H × List MemPlace} (h : DataW.trod enc Tryz.prog w base spare held fuel 3 [v] = some y) : ∃ n : Int, v = .int .i64 n ∧ -9223372036854775808 ≤ n ∧ n ≤ 9223372036854775807 := by
  obtain ⟨n, hv, _, hw⟩ := DataW.trod_int Tryz.underlying3 h
  injection hv with hv
  have hmin : IntKind.i64.min = -9223372036854775808 := rfl
  have hmax : IntKind.i64.max = 9223372036854775807 := rfl
  simp only [Lit.wf, Bool.and_eq_true, decide_eq_true_eq, hmin, hmax] at hw
  exact ⟨n, hv, hw⟩
theorem trod_arr {P : Program} {t e : TypeId} {fuel m : Nat} {cs : List Value} {x : DataW H × List MemPlace} (ht : P.underlying t = some (.array m e)) (hce : P.cellsOf e = 1) (h : DataW.trod enc P w base spare held fuel t cs = some x) :
    ∀ i, i < m → ∃ n y, DataW.trod enc P w base spare held n e ((cs.drop i).take 1) = some y := by
  cases fuel with
  | zero => simp [DataW.trod] at h
  | succ n =>
    unfold DataW.trod at h
    rw [ht] at h
    simp only [hce, Nat.mul_one] at h
    split at h
    · obtain ⟨ys, hys, _⟩ := Option.map_eq_some_iff.1 h
      intro i hi
      obtain ⟨y, hy⟩ := mapM_some_of hys i (by simpa using hi)
      exact ⟨n, y, hy⟩
    · cases h
theorem trod_arr8 {fuel : Nat} {c0 c1 c2 c3 c4 c5 c6 c7 : Value} {x : DataW H × List MemPlace} (h : DataW.trod enc Tryz.prog w base spare held fuel 22 [c0, c1, c2, c3, c4, c5, c6, c7] = some x) :
    ∃ a0 a1 a2 a3 a4 a5 a6 a7 : UInt8, [c0, c1, c2, c3, c4, c5, c6, c7] = [Value.int .u8 (a0.toNat : Int), Value.int .u8 (a1.toNat : Int), Value.int .u8 (a2.toNat : Int), Value.int .u8 (a3.toNat : Int), Value.int .u8 (a4.toNat : Int), Value.int .u8 (a5.toNat : Int), Value.int .u8 (a6.toNat : Int), Value.int .u8 (a7.toNat : Int)] := by
  have k5 : Tryz.prog.cellsOf 5 = 1 := by kernel_rfl
  have g := trod_arr Tryz.underlying22 k5 h
  obtain ⟨m0, y0, h0⟩ := g 0 (by decide)
  obtain ⟨m1, y1, h1⟩ := g 1 (by decide)
  obtain ⟨m2, y2, h2⟩ := g 2 (by decide)
  obtain ⟨m3, y3, h3⟩ := g 3 (by decide)
  obtain ⟨m4, y4, h4⟩ := g 4 (by decide)
  obtain ⟨m5, y5, h5⟩ := g 5 (by decide)
  obtain ⟨m6, y6, h6⟩ := g 6 (by decide)
  obtain ⟨m7, y7, h7⟩ := g 7 (by decide)
  obtain ⟨a0, rfl⟩ := trod_byte (v := c0) h0
  obtain ⟨a1, rfl⟩ := trod_byte (v := c1) h1
  obtain ⟨a2, rfl⟩ := trod_byte (v := c2) h2
  obtain ⟨a3, rfl⟩ := trod_byte (v := c3) h3
  obtain ⟨a4, rfl⟩ := trod_byte (v := c4) h4
  obtain ⟨a5, rfl⟩ := trod_byte (v := c5) h5
  obtain ⟨a6, rfl⟩ := trod_byte (v := c6) h6
  obtain ⟨a7, rfl⟩ := trod_byte (v := c7) h7
  exact ⟨a0, a1, a2, a3, a4, a5, a6, a7, rfl⟩
end
section
variable {H : Type} {enc : TypeId × Value → H} {P : Program} {w : World} {base : Nat} {spare : Nat → Bool} {held : Bool}
end
section
variable {H : Type} {enc : TypeId × Value → H} {w : World} {base : Nat} {spare : Nat → Bool} {held : Bool}
set_option maxRecDepth 100000 in
theorem open_head {fuel : Nat} {cs : List Value} {y : DataW H × List MemPlace} (h : DataW.trod enc Tryz.prog w base spare held fuel 28 cs = some y) : ∃ l : Hd, cs = (hdCells l).toList ∧ l.st.length = 8 := by
  obtain ⟨xs, n, _, _, hlen, hxl, hf⟩ := DataW.trod_struct Tryz.underlying28 h
  have k28 : Tryz.prog.cellsOf 28 = 16 := by kernel_rfl
  have k22 : Tryz.prog.cellsOf 22 = 8 := by kernel_rfl
  have k24 : Tryz.prog.cellsOf 24 = 3 := by kernel_rfl
  have k3 : Tryz.prog.cellsOf 3 = 1 := by kernel_rfl
  have k9 : Tryz.prog.cellsOf 9 = 1 := by kernel_rfl
  have k26 : Tryz.prog.cellsOf 26 = 2 := by kernel_rfl
  rw [k28] at hlen
  clear h
  match cs, xs, hlen, hxl with
  | [c0, c1, c2, c3, c4, c5, c6, c7, c8, c9, c10, c11, c12, c13, c14, c15], [y0, y1, y2, y3, y4, y5], _, _ =>
    have e0 : DataW.trod enc Tryz.prog w base spare held n 22 (List.take (Tryz.prog.cellsOf 22) [c0, c1, c2, c3, c4, c5, c6, c7, c8, c9, c10, c11, c12, c13, c14, c15]) = some y0 := hf 0 _ rfl
    have e1 : DataW.trod enc Tryz.prog w base spare held n 24 (List.take (Tryz.prog.cellsOf 24) [c8, c9, c10, c11, c12, c13, c14, c15]) = some y1 := hf 1 _ rfl
    have e2 : DataW.trod enc Tryz.prog w base spare held n 9 (List.take (Tryz.prog.cellsOf 9) [c11, c12, c13, c14, c15]) = some y2 := hf 2 _ rfl
    have e3 : DataW.trod enc Tryz.prog w base spare held n 3 (List.take (Tryz.prog.cellsOf 3) [c12, c13, c14, c15]) = some y3 := hf 3 _ rfl
    have e4 : DataW.trod enc Tryz.prog w base spare held n 3 (List.take (Tryz.prog.cellsOf 3) [c13, c14, c15]) = some y4 := hf 4 _ rfl
    have e5 : DataW.trod enc Tryz.prog w base spare held n 26 (List.take (Tryz.prog.cellsOf 26) [c14, c15]) = some y5 := hf 5 _ rfl
    rw [k22] at e0
    rw [k24] at e1
    rw [k9] at e2
    rw [k3] at e3 e4
    rw [k26] at e5
    obtain ⟨a0, a1, a2, a3, a4, a5, a6, a7, ha⟩ := trod_arr8 (c0 := c0) e0
    obtain ⟨z0, z1, z2, n', _, _, f0, f1, f2⟩ := Go.Deep.trod_struct3 Tryz.underlying24 e1
    have d0 : DataW.trod enc Tryz.prog w base spare held n' 3 (List.take (Tryz.prog.cellsOf 3) [c8, c9, c10]) = some z0 := f0
    have d1 : DataW.trod enc Tryz.prog w base spare held n' 3 (List.take (Tryz.prog.cellsOf 3) [c9, c10]) = some z1 := f1
    have d2 : DataW.trod enc Tryz.prog w base spare held n' 3 (List.take (Tryz.prog.cellsOf 3) [c10]) = some z2 := f2
    rw [k3] at d0 d1 d2
    obtain ⟨ys, n2, _, _, _, hyl, hg⟩ := DataW.trod_struct Tryz.underlying26 e5
    match ys, hyl with
    | [v0, v1], _ =>
      have q0 : DataW.trod enc Tryz.prog w base spare held n2 3 (List.take (Tryz.prog.cellsOf 3) [c14, c15]) = some v0 := hg 0 _ rfl
      have q1 : DataW.trod enc Tryz.prog w base spare held n2 3 (List.take (Tryz.prog.cellsOf 3) [c15]) = some v1 := hg 1 _ rfl
      rw [k3] at q0 q1
      obtain ⟨nk, rfl, _⟩ := trod_i64 (v := c8) d0
      obtain ⟨nm, rfl, _⟩ := trod_i64 (v := c9) d1
      obtain ⟨nb, rfl, _⟩ := trod_i64 (v := c10) d2
      obtain ⟨s, hs, _, _⟩ := DataW.trod_string Tryz.underlying9 e2
      have hs' : c11 = .string s := by injection hs
      obtain ⟨ns, rfl, _⟩ := trod_i64 (v := c12) e3
      obtain ⟨ni, rfl, _⟩ := trod_i64 (v := c13) e4
      obtain ⟨ne, rfl, _⟩ := trod_i64 (v := c14) q0
      obtain ⟨nc, rfl, _⟩ := trod_i64 (v := c15) q1
      refine ⟨⟨[a0, a1, a2, a3, a4, a5, a6, a7], nk, nm, nb, s.data.toList, ns, ni, ne, nc⟩, ?_, rfl⟩
      injection ha with h0 ha
      injection ha with h1 ha
      injection ha with h2 ha
      injection ha with h3 ha
      injection ha with h4 ha
      injection ha with h5 ha
      injection ha with h6 ha
      injection ha with h7 ha
      subst h0 h1 h2 h3 h4 h5 h6 h7 hs'
      rfl
end
end Go.Proofs.YtcbebefdbdppdaaGreat
