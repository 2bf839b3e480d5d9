/- The law's helper: alike, of two answers that say the same. -/
import Derived.Test.YtdmcjomcbhdcbaaLc
namespace Go.Proofs.Ytdmcjomcbhdcbaa
open Go.RowKit Go.Maps

structure Said where
  e : Int
  data : List UInt8
  names : List Nm
  files : List File
  n : Int
  yes : Bool
def Said.none_ : Said := ⟨0, [], [], [], 0, false⟩

/-- An answer as it stands in memory: its rows lie at 'base' or above. -/
def SaidAt (w : World) (base : Nat) (v : Value) (x : Said) : Prop :=
  ∃ d n f, v = .agg #[.int .i64 x.e, d, n, f, .int .i64 x.n, .bool x.yes] ∧ w.ownsRow base 5 1 d x.data.length (x.data.map B8) ∧ w.ownsRow base 9 1 n x.names.length (x.names.map strV) ∧ FilesAt w base f x.files
theorem SaidAt.below {w w' : World} {base : Nat} {v : Value} {x : Said} (h : SaidAt w base v x) (hb : Below w.heap.size w w') : SaidAt w' base v x := by
  obtain ⟨d, n, f, e, h1, h2, h3⟩ := h
  exact ⟨d, n, f, e, ownsRow_below h1 hb, ownsRow_below h2 hb, h3.below hb⟩

set_option maxRecDepth 100000 in
set_option maxHeartbeats 1000000 in
theorem alike_any (va vb : Value) (x : Said) (ba bb : Nat) (w : World) (ha : SaidAt w ba va x) (hb : SaidAt w bb vb x) (hn : x.names.length ≤ 2199023254000) (hf : x.files.length ≤ 2199023254000) :
    Calls Try.prog 20 #[va, vb] w fun e w' => e = .returned (.bool true) ∧ Below w.heap.size w w' := by
  obtain ⟨da, na, fa, rfl, a1, a2, a3⟩ := ha
  obtain ⟨db, nb, fb, rfl, b1, b2, b3⟩ := hb
  obtain ⟨pa, ca, rfl, _⟩ := own_shape a1
  obtain ⟨pb, cb, rfl, _⟩ := own_shape b1
  obtain ⟨qa, ka, rfl, _⟩ := own_shape a2
  obtain ⟨qb, kb, rfl, _⟩ := own_shape b2
  have hva : ∀ W, Below w.heap.size w W → (convert 22 9 (.slice pa x.data.length ca)).run Try.prog W = .ok (.string ⟨x.data.toArray⟩) W := fun W h => conv_any _ w.heap.size pa x.data ca ((Reads.of_own a1).below h)
  have hvb : ∀ W, Below w.heap.size w W → (convert 22 9 (.slice pb x.data.length cb)).run Try.prog W = .ok (.string ⟨x.data.toArray⟩) W := fun W h => conv_any _ w.heap.size pb x.data cb ((Reads.of_own b1).below h)
  have HVA := Lib.hid hva
  have HVB := Lib.hid hvb
  have A2 := Lib.hid a2
  have B2 := Lib.hid b2
  have A3 := Lib.hid a3
  have B3 := Lib.hid b3
  clear a1 b1 a2 b2 a3 b3 hva hvb
  obtain ⟨t, ht⟩ : ∃ t : ByteArray, t = ⟨x.data.toArray⟩ := ⟨_, rfl⟩
  rw [← ht] at HVA HVB
  obtain ⟨E, hE⟩ : ∃ E, E = x.e := ⟨_, rfl⟩
  obtain ⟨Nn, hNn⟩ : ∃ E, E = x.n := ⟨_, rfl⟩
  obtain ⟨Y, hY⟩ : ∃ E, E = x.yes := ⟨_, rfl⟩
  rw [← hE, ← hNn, ← hY]
  clear ht hE hNn hY
  obtain ⟨W2, hW2⟩ : ∃ W, W = (w.alloc (.cells #[.int .i64 E, .slice pa x.data.length ca, .slice qa x.names.length ka, fa, .int .i64 Nn, .bool Y] 41)).alloc (.cells #[.int .i64 E, .slice pb x.data.length cb, .slice qb x.names.length kb, fb, .int .i64 Nn, .bool Y] 41) := ⟨_, rfl⟩
  have HB2 : Hid (Below w.heap.size w W2) := Lib.hid (by rw [hW2]; exact ((Below.refl _ w).alloc (Nat.le_refl _) _).alloc (by rw [alloc_size]; omega) _)
  have hca := HVA.out W2 HB2.out
  have hcb := HVB.out W2 HB2.out
  have BA : Hid (Blk W2 w.heap.size 41 #[.int .i64 E, .slice pa x.data.length ca, .slice qa x.names.length ka, fa, .int .i64 Nn, .bool Y]) := Lib.hid (by rw [hW2]; exact (Blk.new _ _ _).alloc _)
  have BB : Hid (Blk W2 (w.heap.size + 1) 41 #[.int .i64 E, .slice pb x.data.length cb, .slice qb x.names.length kb, fb, .int .i64 Nn, .bool Y]) := Lib.hid (by rw [hW2, ← alloc_size w (.cells #[.int .i64 E, .slice pa x.data.length ca, .slice qa x.names.length ka, fa, .int .i64 Nn, .bool Y] 41)]; exact Blk.new _ _ _)
  have A3' := Lib.hid (A3.out.below HB2.out)
  have B3' := Lib.hid (B3.out.below HB2.out)
  rw [hW2] at hca hcb
  have HW2 := Lib.hid hW2; clear hW2
  obtain ⟨len, hlen⟩ : ∃ k, k = x.names.length := ⟨_, rfl⟩
  have HLEN := Lib.hid hlen
  obtain ⟨dl, hdl⟩ : ∃ k, k = x.data.length := ⟨_, rfl⟩
  have HDL := Lib.hid hdl
  rw [← hdl] at hca hcb
  rw [← hlen] at hca hcb hn
  rw [← hlen, ← hdl] at BA BB HW2 ⊢
  clear hlen hdl
  go_enter Try.func20, Try.ntmps20
  go_wp2_with (go_at_call 49; rw [← HW2.out]; refine (files_any fa fb x.files x.files ba bb W2 A3'.out B3'.out hf).mono ?_; rintro e w3 ⟨rfl, n, hw3⟩; rw [show decide (x.files = x.files) = true from decide_eq_true rfl]; have HB3 : Hid (Below w.heap.size w w3) := Lib.hid (by rw [hw3]; exact below_drewN HB2.out n); have BA3 : Hid (Blk w3 w.heap.size 41 #[.int .i64 E, .slice pa dl ca, .slice qa len ka, fa, .int .i64 Nn, .bool Y]) := Lib.hid (by rw [hw3]; exact BA.out); have BB3 : Hid (Blk w3 (w.heap.size + 1) 41 #[.int .i64 E, .slice pb dl cb, .slice qb len kb, fb, .int .i64 Nn, .bool Y]) := Lib.hid (by rw [hw3]; exact BB.out); clear hw3)
  go_loopw [5] (fun s wr => ∃ k : Nat, k ≤ len ∧ s = .int .i64 k ∧ ∃ n, wr = w3.drewN n) (fun s _ => len - (intOf s).toNat)
  case atStart => exact ⟨0, Nat.zero_le _, rfl, 0, rfl⟩
  case round =>
    obtain ⟨k, hk, rfl, m, hm⟩ := hrel
    have HM := Lib.hid hm
    have HBR : Hid (Below w.heap.size w wr) := Lib.hid (by rw [hm]; exact below_drewN HB3.out m)
    have x2 : wr.cell? ⟨w.heap.size, 2, none⟩ = some (.slice qa len ka) := by rw [hm]; exact BA3.out.cell 2
    have y2 : wr.cell? ⟨w.heap.size + 1, 2, none⟩ = some (.slice qb len kb) := by rw [hm]; exact BB3.out.cell 2
    clear hm
    by_cases hlt : k < len
    · obtain ⟨nm, hnm⟩ : ∃ s, x.names[k]? = some s := ⟨_, List.getElem?_eq_getElem (by rw [← HLEN.out]; exact hlt)⟩
      have ra := ownsRow_below A2.out HBR.out
      have rb := ownsRow_below B2.out HBR.out
      rw [← HLEN.out] at ra rb
      obtain ⟨ga, _, hva', _, _⟩ := ra.form (by omega)
      obtain ⟨gb, _, hvb', _, _⟩ := rb.form (by omega)
      have ea : qa = some ⟨ga, 0, none⟩ := by injection hva'
      have eb : qb = some ⟨gb, 0, none⟩ := by injection hvb'
      have hc : (x.names.map strV)[k]? = some (strV nm) := by rw [List.getElem?_map, hnm]; rfl
      rw [ea] at ra x2
      rw [eb] at rb y2
      obtain ⟨s1, hs1⟩ : ∃ y : ByteArray, y = ⟨nm.toArray⟩ := ⟨_, rfl⟩
      have z1 : wr.cell? ⟨ga, k, none⟩ = some (.string s1) := by
        have := ra.cells (g := ga) rfl k _ hc; rw [hs1]; simpa [add_plain, strV] using this
      have z2 : wr.cell? ⟨gb, k, none⟩ = some (.string s1) := by
        have := rb.cells (g := gb) rfl k _ hc; rw [hs1]; simpa [add_plain, strV] using this
      clear ra rb hva' hvb' ea eb hc hnm hs1
      go_wp2
      go_quiet (fail)
      go_wp2
      go_roundw
      case rel => exact ⟨k + 1, by omega, by go_num, m + nq, by rw [HM.out, World.drewN_drewN]⟩
      case measure => simp [intOf]; omega
    · have hkl : k = len := by omega
      subst hkl
      go_wp2
      go_ret
      exact ⟨rfl, HBR.out⟩
end Go.Proofs.Ytdmcjomcbhdcbaa
