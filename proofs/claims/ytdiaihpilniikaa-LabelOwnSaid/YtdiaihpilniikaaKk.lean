/- A reader of bytes: its readings' insides. -/
import Derived.Test.YtdiaihpilniikaaKj
import Derived.Test.YtdiaihpilniikaaPf
import Derived.Deep.RegionHeld3
import Derived.Laws.BitsAllLaws
import Derived.Laws.Shifts
namespace Go.Proofs.Ytdiaihpilniikaa
open Go.RowKit Go.Maps

/-- A reader over bytes of its own, so many gone over. -/
structure RdAt (w : World) (r g n c p : Nat) (bs : List UInt8) : Prop where
  head : Blk w r 82 #[.slice (some ⟨g, 0, none⟩) n c, .int .i64 (p : Int), .int .i64 0]
  row : w.ownsRow 0 5 1 (.slice (some ⟨g, 0, none⟩) n c) n (bs.map B8)
  small : n ≤ 1000000
theorem RdAt.nc {w : World} {r g n c p : Nat} {bs : List UInt8} (h : RdAt w r g n c p bs) : n ≤ c := by
  obtain ⟨a, c', hv, hn⟩ := own_shape h.row
  injection hv with e1 e2 e3
  omega
theorem RdAt.ne {w : World} {r g n c p : Nat} {bs : List UInt8} (h : RdAt w r g n c p bs) : g ≠ r := by
  obtain ⟨cur, hg⟩ : ∃ cur, Blk w g 5 cur := by
    rcases h.row.2 with ⟨hv, _⟩ | ⟨g', cap, cur, hv, _, hb, _⟩
    · cases hv
    · injection hv with e1 e2 e3
      injection e1 with e1
      injection e1 with e1
      subst e1
      exact ⟨cur, hb⟩
  exact hg.ne_ h.head (by decide)
/-- .. when the next m bytes were taken. -/
theorem RdAt.took {w w' : World} {r g n c p m k : Nat} {bs : List UInt8} (h : RdAt w r g n c p bs) (hw : w' = (w.drewN k).setCell ⟨r, 1, none⟩ (.int .i64 ((p + m : Nat) : Int))) : RdAt w' r g n c (p + m) bs ∧ Touch (· = r) w w' := by
  subst hw
  refine ⟨⟨?_, ?_, h.small⟩, ?_⟩
  · exact (h.head.drewN k).set_ 1 _
  · refine ownsRow_keep h.row fun i hi => ?_
    have : i = g := (Option.some.inj hi).symm
    subst this
    exact (h.row.lt i hi).2 |> fun _ => Below.heap_setCell (w.drewN k) ⟨r, 1, none⟩ _ i h.ne
  · exact (Touch.drewN w k).set (G := (· = r)) rfl _
theorem RdAt.keep {w w' : World} {r g n c p : Nat} {bs : List UInt8} (h : RdAt w r g n c p bs) (h1 : w'.heap[r]? = w.heap[r]?) (h2 : w'.heap[g]? = w.heap[g]?) : RdAt w' r g n c p bs :=
  ⟨h1.trans h.head, ownsRow_keep h.row fun i hi => by have : i = g := (Option.some.inj hi).symm; subst this; exact h2, h.small⟩
theorem RdAt.glt {w : World} {r g n c p : Nat} {bs : List UInt8} (h : RdAt w r g n c p bs) : g < w.heap.size := (h.row.lt g rfl).2
theorem RdAt.below {w w' : World} {r g n c p : Nat} {bs : List UInt8} (h : RdAt w r g n c p bs) (hb : Below w.heap.size w w') : RdAt w' r g n c p bs := h.keep (hb.block r h.head.lt) (hb.block g h.glt)
/-- The byte at a place. -/
theorem RdAt.byte {w : World} {r g n c p : Nat} {bs : List UInt8} (h : RdAt w r g n c p bs) {j : Nat} (hj : j < n) : ∃ x, bs[j]? = some x ∧ w.cell? ⟨g, j, none⟩ = some (.int .u8 (x.toNat : Int)) := by
  have hr := Reads.of_own h.row
  obtain ⟨ad, u, ha, _, hu, hc⟩ := hr.at_ hj
  injection ha with ha
  subst ha
  rw [add_plain, Nat.zero_add] at hc
  rw [List.getElem?_map] at hu
  cases hx : bs[j]? with
  | none => rw [hx] at hu; cases hu
  | some x => rw [hx] at hu; exact ⟨x, rfl, by rw [hc]; exact hu.symm⟩
theorem or_pow (q y i : Nat) (hq : q < 2 ^ i) (hy : y * 2 ^ i < 18446744073709551616) (hi : 2 ^ i < 18446744073709551616) : bits .or .u64 (q : Int) ((y * 2 ^ i : Nat) : Int) = ((q + y * 2 ^ i : Nat) : Int) := by
  rw [u64_or_nat q (y * 2 ^ i) (by omega) hy, Nat.or_comm, ← Nat.shiftLeft_eq, ← Nat.shiftLeft_add_eq_or_of_lt hq, Nat.add_comm]
theorem RdAt.gne {w : World} {r g n c p : Nat} {bs : List UInt8} (h : RdAt w r g n c p bs) {x : Value} {t : TypeId} (k : Blk w g t #[x]) (ht : t ≠ 5) : False := by
  rcases h.row.2 with ⟨hv, _⟩ | ⟨g', cap, cur, hv, _, hb, _⟩
  · cases hv
  · injection hv with e1 e2 e3
    injection e1 with e1
    injection e1 with e1
    subst e1
    exact k.ne_ hb ht rfl
theorem unle_append (l m : List UInt8) : unle (l ++ m) = unle l + 256 ^ l.length * unle m := by
  induction l with
  | nil => simp [unle]
  | cons x l ih =>
    show x.toNat + 256 * unle (l ++ m) = x.toNat + 256 * unle l + 256 ^ (l.length + 1) * unle m
    rw [ih, Nat.pow_succ, Nat.mul_add, Nat.mul_comm (256 ^ l.length) 256, Nat.mul_assoc]
    omega
theorem unle_take {l : List UInt8} {k : Nat} {x : UInt8} (h : l[k]? = some x) : unle (l.take (k + 1)) = unle (l.take k) + x.toNat * 256 ^ k := by
  have hl : k < l.length := (List.getElem?_eq_some_iff.1 h).1
  rw [List.take_add_one, h, unle_append]
  show _ + 256 ^ (l.take k).length * (x.toNat + 256 * 0) = _
  rw [List.length_take, Nat.min_eq_left (by omega), Nat.mul_zero, Nat.add_zero, Nat.mul_comm]

set_option maxRecDepth 100000 in
set_option maxHeartbeats 8000000 in
theorem take8_in (r g n c p : Nat) (bs : List UInt8) (b1 b2 : Nat) (x0 : Int) (w : World) (h : RdAt w r g n c p bs) (hp : p + 1 ≤ n)
    (h1 : w.cell? ⟨b1, 0, none⟩ = some (.pointer (some ⟨r, 0, none⟩))) (h2 : Blk w b2 5 #[.int .u8 x0]) (hgb2 : g ≠ b2) :
    Calls Try.prog 54 #[.pointer (some ⟨b1, 0, none⟩), .pointer (some ⟨b2, 0, none⟩)] w fun e w' => e = .returned (.tuple #[]) ∧
      (RdAt w' r g n c (p + 1) bs ∧ w'.cell? ⟨b2, 0, none⟩ = some (.int .u8 (unle ((bs.drop p).take 1) : Nat)) ∧ Touch (fun i => i = r ∨ i = b2) w w') := by
  have HR := Lib.hid h
  have hnc := h.nc
  have hsm := h.small
  have hrb1 : b1 ≠ r := by
    intro e
    subst e
    have := h.head.cell 0
    rw [h1] at this
    cases this
  have hrb2 : b2 ≠ r := h2.ne_ h.head (by decide)
  have H2 := Lib.hid h2
  have H1 := Lib.hid h1
  have hm0 : (1 : Nat) ≤ n := by omega
  have HR2 := Lib.hid h
  clear h h2
  go_enter Try.func54, Try.ntmps54
  go_wp2_with fail
  have h1' : w.drew.cell? ⟨b1, 0, none⟩ = some (.pointer (some ⟨r, 0, none⟩)) := h1
  go_region_held3 (fun w' => w'.cell? ⟨b1, 0, none⟩ = some (.pointer (some ⟨r, 0, none⟩))) (first | with_reducible assumption | go_keep)
    (first
      | (go_at_call 55; refine (width8_any _).mono ?_; rintro e w' ⟨rfl, rfl⟩)
      | (go_at_call 53; refine (take_any r g n c p 1 w.drew HR.out.head hp hnc hsm (by decide)).mono ?_; rintro e w1 ⟨rfl, kk, hw1⟩; have HT := Lib.hid (RdAt.took (w := w.drew) ⟨HR.out.head, HR.out.row, hsm⟩ hw1); have h1'' : w1.cell? ⟨b1, 0, none⟩ = some (.pointer (some ⟨r, 0, none⟩)) := (World.cell?_of_block (HT.out.2.block b1 (World.block_lt_of_cell? w.drew _ h1') hrb1)).trans h1'; clear hw1))
  have hln : bs.length = n := by have := HR.out.row.1; simpa using this
  have HTR := Lib.hid HT.out.1
  have hp0 : (0 : Int) ≤ (p : Int) := Int.natCast_nonneg _
  go_wp2_with fail
  go_loopw [2, 3, 4, 10] (fun s2 _ _ s10 wr => ∃ k : Nat, k ≤ 1 ∧ s2 = .int .u64 (unle ((bs.drop p).take k) : Nat) ∧ s10 = .int .i64 k ∧ wr = w1) (fun _ _ _ s _ => 1 - (intOf s).toNat)
  case atStart => exact ⟨0, Nat.zero_le _, rfl, rfl, rfl⟩
  case round =>
    obtain ⟨k, hk, rfl, rfl, rfl⟩ := hrel
    by_cases hlt : k < 1
    · obtain ⟨x, hx, hcx⟩ := HTR.out.byte (j := p + k) (by omega)
      have HU : Hid (unle ((bs.drop p).take (k + 1)) = unle ((bs.drop p).take k) + x.toNat * 256 ^ k) := Lib.hid (unle_take (by rw [List.getElem?_drop]; exact hx))
      have HQ : Hid (unle ((bs.drop p).take k) < 256 ^ k) := Lib.hid (Nat.lt_of_lt_of_le (unle_lt _) (Nat.pow_le_pow_right (by decide) (by rw [List.length_take]; omega)))
      obtain ⟨q, hq⟩ : ∃ q, q = unle ((bs.drop p).take k) := ⟨_, rfl⟩
      obtain ⟨y, hy⟩ : ∃ y : Nat, y = x.toNat := ⟨_, rfl⟩
      have hy2 : y < 256 := by rw [hy]; exact x.toNat_lt
      rw [← hq] at HU HQ ⊢
      rw [← hy] at HU hcx
      clear hq hy hx
      obtain rfl : k = 0 := by omega
      · rw [Nat.add_zero] at hcx
        obtain rfl : q = 0 := by have := HQ.out; omega
        have hor : bits .or .u64 (0) ((y : Int)) = ((0 + y * 1 : Nat) : Int) := by
          have h1 : 0 < 2 ^ 0 := by decide
          rw [show (y : Int) = ((y * 1 : Nat) : Int) by omega]
          exact or_pow 0 y 0 h1 (by omega) (by decide)
        go_wp2
        go_roundw
        case rel => exact ⟨1, by omega, by rw [HU.out]; refine congrArg (Value.int .u64) ?_; first | omega | (simp; done) | (simp; omega), by go_num, trivial⟩
        case measure => first | (simp [intOf]; done) | (simp [intOf]; omega)
    · obtain rfl : k = 1 := by omega
      have HV : Hid (unle ((bs.drop p).take 1) < 256 ^ 1) := Lib.hid (Nat.lt_of_lt_of_le (unle_lt _) (Nat.pow_le_pow_right (by decide) (by rw [List.length_take]; omega)))
      obtain ⟨q, hq⟩ : ∃ q, q = unle ((bs.drop p).take 1) := ⟨_, rfl⟩
      rw [← hq] at HV ⊢
      have hqv : (q : Int) % 256 = (q : Int) := by have := HV.out; omega
      have k2 : Blk wr b2 5 #[.int .u8 x0] := (HT.out.2.block b2 H2.out.lt hrb2).trans H2.out
      have c2 := k2.cell 0
      have f2 := k2.frozen 0
      have l2 := k2.lt
      have K2 := Lib.hid k2
      have HQE := Lib.hid hq
      clear hq k2
      go_wp2
      go_end0
      refine ⟨rfl, HTR.out.keep (Below.heap_setCell wr ⟨b2, 0, none⟩ _ r (fun e => hrb2 e.symm)) (Below.heap_setCell wr ⟨b2, 0, none⟩ _ g hgb2), ?_, ?_⟩
      · rw [← HQE.out]; exact (K2.out.set_ 0 (.int .u8 (q : Int))).cell 0
      · exact ((Touch.drewN w 1).trans (HT.out.2.mono fun i _ hi => .inl (.inl hi))).set (G := fun i => i = r ∨ i = b2) (.inr rfl) _

set_option maxRecDepth 100000 in
set_option maxHeartbeats 8000000 in
theorem take32_in (r g n c p : Nat) (bs : List UInt8) (b1 b2 : Nat) (x0 : Int) (w : World) (h : RdAt w r g n c p bs) (hp : p + 4 ≤ n)
    (h1 : w.cell? ⟨b1, 0, none⟩ = some (.pointer (some ⟨r, 0, none⟩))) (h2 : Blk w b2 54 #[.int .u32 x0]) (hgb2 : g ≠ b2) :
    Calls Try.prog 56 #[.pointer (some ⟨b1, 0, none⟩), .pointer (some ⟨b2, 0, none⟩)] w fun e w' => e = .returned (.tuple #[]) ∧
      (RdAt w' r g n c (p + 4) bs ∧ w'.cell? ⟨b2, 0, none⟩ = some (.int .u32 (unle ((bs.drop p).take 4) : Nat)) ∧ Touch (fun i => i = r ∨ i = b2) w w') := by
  have HR := Lib.hid h
  have hnc := h.nc
  have hsm := h.small
  have hrb1 : b1 ≠ r := by
    intro e
    subst e
    have := h.head.cell 0
    rw [h1] at this
    cases this
  have hrb2 : b2 ≠ r := h2.ne_ h.head (by decide)
  have H2 := Lib.hid h2
  have H1 := Lib.hid h1
  have hm0 : (4 : Nat) ≤ n := by omega
  have HR2 := Lib.hid h
  clear h h2
  go_enter Try.func56, Try.ntmps56
  go_wp2_with fail
  have h1' : w.drew.cell? ⟨b1, 0, none⟩ = some (.pointer (some ⟨r, 0, none⟩)) := h1
  go_region_held3 (fun w' => w'.cell? ⟨b1, 0, none⟩ = some (.pointer (some ⟨r, 0, none⟩))) (first | with_reducible assumption | go_keep)
    (first
      | (go_at_call 47; refine (width32_any _).mono ?_; rintro e w' ⟨rfl, rfl⟩)
      | (go_at_call 53; refine (take_any r g n c p 4 w.drew HR.out.head hp hnc hsm (by decide)).mono ?_; rintro e w1 ⟨rfl, kk, hw1⟩; have HT := Lib.hid (RdAt.took (w := w.drew) ⟨HR.out.head, HR.out.row, hsm⟩ hw1); have h1'' : w1.cell? ⟨b1, 0, none⟩ = some (.pointer (some ⟨r, 0, none⟩)) := (World.cell?_of_block (HT.out.2.block b1 (World.block_lt_of_cell? w.drew _ h1') hrb1)).trans h1'; clear hw1))
  have hln : bs.length = n := by have := HR.out.row.1; simpa using this
  have HTR := Lib.hid HT.out.1
  have hp0 : (0 : Int) ≤ (p : Int) := Int.natCast_nonneg _
  go_wp2_with fail
  go_loopw [2, 3, 4, 10] (fun s2 _ _ s10 wr => ∃ k : Nat, k ≤ 4 ∧ s2 = .int .u64 (unle ((bs.drop p).take k) : Nat) ∧ s10 = .int .i64 k ∧ wr = w1) (fun _ _ _ s _ => 4 - (intOf s).toNat)
  case atStart => exact ⟨0, Nat.zero_le _, rfl, rfl, rfl⟩
  case round =>
    obtain ⟨k, hk, rfl, rfl, rfl⟩ := hrel
    by_cases hlt : k < 4
    · obtain ⟨x, hx, hcx⟩ := HTR.out.byte (j := p + k) (by omega)
      have HU : Hid (unle ((bs.drop p).take (k + 1)) = unle ((bs.drop p).take k) + x.toNat * 256 ^ k) := Lib.hid (unle_take (by rw [List.getElem?_drop]; exact hx))
      have HQ : Hid (unle ((bs.drop p).take k) < 256 ^ k) := Lib.hid (Nat.lt_of_lt_of_le (unle_lt _) (Nat.pow_le_pow_right (by decide) (by rw [List.length_take]; omega)))
      obtain ⟨q, hq⟩ : ∃ q, q = unle ((bs.drop p).take k) := ⟨_, rfl⟩
      obtain ⟨y, hy⟩ : ∃ y : Nat, y = x.toNat := ⟨_, rfl⟩
      have hy2 : y < 256 := by rw [hy]; exact x.toNat_lt
      rw [← hq] at HU HQ ⊢
      rw [← hy] at HU hcx
      clear hq hy hx
      obtain rfl | rfl | rfl | rfl : k = 0 ∨ k = 1 ∨ k = 2 ∨ k = 3 := by omega
      · rw [Nat.add_zero] at hcx
        obtain rfl : q = 0 := by have := HQ.out; omega
        have hor : bits .or .u64 (0) ((y : Int)) = ((0 + y * 1 : Nat) : Int) := by
          have h1 : 0 < 2 ^ 0 := by decide
          rw [show (y : Int) = ((y * 1 : Nat) : Int) by omega]
          exact or_pow 0 y 0 h1 (by omega) (by decide)
        go_wp2
        go_roundw
        case rel => exact ⟨1, by omega, by rw [HU.out]; refine congrArg (Value.int .u64) ?_; first | omega | (simp; done) | (simp; omega), by go_num, trivial⟩
        case measure => first | (simp [intOf]; done) | (simp [intOf]; omega)
      · skip
        skip
        have hor : bits .or .u64 ((q : Int)) ((y : Int) * 256) = ((q + y * 256 : Nat) : Int) := by
          have h1 : q < 2 ^ 8 := HQ.out
          rw [show (y : Int) * 256 = ((y * 256 : Nat) : Int) by omega]
          exact or_pow q y 8 h1 (by omega) (by decide)
        go_wp2
        go_roundw
        case rel => exact ⟨2, by omega, by rw [HU.out]; refine congrArg (Value.int .u64) ?_; first | omega | (simp; done) | (simp; omega), by go_num, trivial⟩
        case measure => first | (simp [intOf]; done) | (simp [intOf]; omega)
      · skip
        skip
        have hor : bits .or .u64 ((q : Int)) ((y : Int) * 65536) = ((q + y * 65536 : Nat) : Int) := by
          have h1 : q < 2 ^ 16 := HQ.out
          rw [show (y : Int) * 65536 = ((y * 65536 : Nat) : Int) by omega]
          exact or_pow q y 16 h1 (by omega) (by decide)
        go_wp2
        go_roundw
        case rel => exact ⟨3, by omega, by rw [HU.out]; refine congrArg (Value.int .u64) ?_; first | omega | (simp; done) | (simp; omega), by go_num, trivial⟩
        case measure => first | (simp [intOf]; done) | (simp [intOf]; omega)
      · skip
        skip
        have hor : bits .or .u64 ((q : Int)) ((y : Int) * 16777216) = ((q + y * 16777216 : Nat) : Int) := by
          have h1 : q < 2 ^ 24 := HQ.out
          rw [show (y : Int) * 16777216 = ((y * 16777216 : Nat) : Int) by omega]
          exact or_pow q y 24 h1 (by omega) (by decide)
        go_wp2
        go_roundw
        case rel => exact ⟨4, by omega, by rw [HU.out]; refine congrArg (Value.int .u64) ?_; first | omega | (simp; done) | (simp; omega), by go_num, trivial⟩
        case measure => first | (simp [intOf]; done) | (simp [intOf]; omega)
    · obtain rfl : k = 4 := by omega
      have HV : Hid (unle ((bs.drop p).take 4) < 256 ^ 4) := Lib.hid (Nat.lt_of_lt_of_le (unle_lt _) (Nat.pow_le_pow_right (by decide) (by rw [List.length_take]; omega)))
      obtain ⟨q, hq⟩ : ∃ q, q = unle ((bs.drop p).take 4) := ⟨_, rfl⟩
      rw [← hq] at HV ⊢
      have hqv : (q : Int) % 4294967296 = (q : Int) := by have := HV.out; omega
      have k2 : Blk wr b2 54 #[.int .u32 x0] := (HT.out.2.block b2 H2.out.lt hrb2).trans H2.out
      have c2 := k2.cell 0
      have f2 := k2.frozen 0
      have l2 := k2.lt
      have K2 := Lib.hid k2
      have HQE := Lib.hid hq
      clear hq k2
      go_wp2
      go_end0
      refine ⟨rfl, HTR.out.keep (Below.heap_setCell wr ⟨b2, 0, none⟩ _ r (fun e => hrb2 e.symm)) (Below.heap_setCell wr ⟨b2, 0, none⟩ _ g hgb2), ?_, ?_⟩
      · rw [← HQE.out]; exact (K2.out.set_ 0 (.int .u32 (q : Int))).cell 0
      · exact ((Touch.drewN w 1).trans (HT.out.2.mono fun i _ hi => .inl (.inl hi))).set (G := fun i => i = r ∨ i = b2) (.inr rfl) _

set_option maxRecDepth 100000 in
set_option maxHeartbeats 8000000 in
theorem take64_in (r g n c p : Nat) (bs : List UInt8) (b1 b2 : Nat) (x0 : Int) (w : World) (h : RdAt w r g n c p bs) (hp : p + 8 ≤ n)
    (h1 : w.cell? ⟨b1, 0, none⟩ = some (.pointer (some ⟨r, 0, none⟩))) (h2 : Blk w b2 60 #[.int .u64 x0]) (hgb2 : g ≠ b2) :
    Calls Try.prog 57 #[.pointer (some ⟨b1, 0, none⟩), .pointer (some ⟨b2, 0, none⟩)] w fun e w' => e = .returned (.tuple #[]) ∧
      (RdAt w' r g n c (p + 8) bs ∧ w'.cell? ⟨b2, 0, none⟩ = some (.int .u64 (unle ((bs.drop p).take 8) : Nat)) ∧ Touch (fun i => i = r ∨ i = b2) w w') := by
  have HR := Lib.hid h
  have hnc := h.nc
  have hsm := h.small
  have hrb1 : b1 ≠ r := by
    intro e
    subst e
    have := h.head.cell 0
    rw [h1] at this
    cases this
  have hrb2 : b2 ≠ r := h2.ne_ h.head (by decide)
  have H2 := Lib.hid h2
  have H1 := Lib.hid h1
  have hm0 : (8 : Nat) ≤ n := by omega
  have HR2 := Lib.hid h
  clear h h2
  go_enter Try.func57, Try.ntmps57
  go_wp2_with fail
  have h1' : w.drew.cell? ⟨b1, 0, none⟩ = some (.pointer (some ⟨r, 0, none⟩)) := h1
  go_region_held3 (fun w' => w'.cell? ⟨b1, 0, none⟩ = some (.pointer (some ⟨r, 0, none⟩))) (first | with_reducible assumption | go_keep)
    (first
      | (go_at_call 48; refine (width64_any _).mono ?_; rintro e w' ⟨rfl, rfl⟩)
      | (go_at_call 53; refine (take_any r g n c p 8 w.drew HR.out.head hp hnc hsm (by decide)).mono ?_; rintro e w1 ⟨rfl, kk, hw1⟩; have HT := Lib.hid (RdAt.took (w := w.drew) ⟨HR.out.head, HR.out.row, hsm⟩ hw1); have h1'' : w1.cell? ⟨b1, 0, none⟩ = some (.pointer (some ⟨r, 0, none⟩)) := (World.cell?_of_block (HT.out.2.block b1 (World.block_lt_of_cell? w.drew _ h1') hrb1)).trans h1'; clear hw1))
  have hln : bs.length = n := by have := HR.out.row.1; simpa using this
  have HTR := Lib.hid HT.out.1
  have hp0 : (0 : Int) ≤ (p : Int) := Int.natCast_nonneg _
  go_wp2_with fail
  go_loopw [2, 3, 4, 10] (fun s2 _ _ s10 wr => ∃ k : Nat, k ≤ 8 ∧ s2 = .int .u64 (unle ((bs.drop p).take k) : Nat) ∧ s10 = .int .i64 k ∧ wr = w1) (fun _ _ _ s _ => 8 - (intOf s).toNat)
  case atStart => exact ⟨0, Nat.zero_le _, rfl, rfl, rfl⟩
  case round =>
    obtain ⟨k, hk, rfl, rfl, rfl⟩ := hrel
    by_cases hlt : k < 8
    · obtain ⟨x, hx, hcx⟩ := HTR.out.byte (j := p + k) (by omega)
      have HU : Hid (unle ((bs.drop p).take (k + 1)) = unle ((bs.drop p).take k) + x.toNat * 256 ^ k) := Lib.hid (unle_take (by rw [List.getElem?_drop]; exact hx))
      have HQ : Hid (unle ((bs.drop p).take k) < 256 ^ k) := Lib.hid (Nat.lt_of_lt_of_le (unle_lt _) (Nat.pow_le_pow_right (by decide) (by rw [List.length_take]; omega)))
      obtain ⟨q, hq⟩ : ∃ q, q = unle ((bs.drop p).take k) := ⟨_, rfl⟩
      obtain ⟨y, hy⟩ : ∃ y : Nat, y = x.toNat := ⟨_, rfl⟩
      have hy2 : y < 256 := by rw [hy]; exact x.toNat_lt
      rw [← hq] at HU HQ ⊢
      rw [← hy] at HU hcx
      clear hq hy hx
      obtain rfl | rfl | rfl | rfl | rfl | rfl | rfl | rfl : k = 0 ∨ k = 1 ∨ k = 2 ∨ k = 3 ∨ k = 4 ∨ k = 5 ∨ k = 6 ∨ k = 7 := by omega
      · rw [Nat.add_zero] at hcx
        obtain rfl : q = 0 := by have := HQ.out; omega
        have hor : bits .or .u64 (0) ((y : Int)) = ((0 + y * 1 : Nat) : Int) := by
          have h1 : 0 < 2 ^ 0 := by decide
          rw [show (y : Int) = ((y * 1 : Nat) : Int) by omega]
          exact or_pow 0 y 0 h1 (by omega) (by decide)
        go_wp2
        go_roundw
        case rel => exact ⟨1, by omega, by rw [HU.out]; refine congrArg (Value.int .u64) ?_; first | omega | (simp; done) | (simp; omega), by go_num, trivial⟩
        case measure => first | (simp [intOf]; done) | (simp [intOf]; omega)
      · skip
        skip
        have hor : bits .or .u64 ((q : Int)) ((y : Int) * 256) = ((q + y * 256 : Nat) : Int) := by
          have h1 : q < 2 ^ 8 := HQ.out
          rw [show (y : Int) * 256 = ((y * 256 : Nat) : Int) by omega]
          exact or_pow q y 8 h1 (by omega) (by decide)
        go_wp2
        go_roundw
        case rel => exact ⟨2, by omega, by rw [HU.out]; refine congrArg (Value.int .u64) ?_; first | omega | (simp; done) | (simp; omega), by go_num, trivial⟩
        case measure => first | (simp [intOf]; done) | (simp [intOf]; omega)
      · skip
        skip
        have hor : bits .or .u64 ((q : Int)) ((y : Int) * 65536) = ((q + y * 65536 : Nat) : Int) := by
          have h1 : q < 2 ^ 16 := HQ.out
          rw [show (y : Int) * 65536 = ((y * 65536 : Nat) : Int) by omega]
          exact or_pow q y 16 h1 (by omega) (by decide)
        go_wp2
        go_roundw
        case rel => exact ⟨3, by omega, by rw [HU.out]; refine congrArg (Value.int .u64) ?_; first | omega | (simp; done) | (simp; omega), by go_num, trivial⟩
        case measure => first | (simp [intOf]; done) | (simp [intOf]; omega)
      · skip
        skip
        have hor : bits .or .u64 ((q : Int)) ((y : Int) * 16777216) = ((q + y * 16777216 : Nat) : Int) := by
          have h1 : q < 2 ^ 24 := HQ.out
          rw [show (y : Int) * 16777216 = ((y * 16777216 : Nat) : Int) by omega]
          exact or_pow q y 24 h1 (by omega) (by decide)
        go_wp2
        go_roundw
        case rel => exact ⟨4, by omega, by rw [HU.out]; refine congrArg (Value.int .u64) ?_; first | omega | (simp; done) | (simp; omega), by go_num, trivial⟩
        case measure => first | (simp [intOf]; done) | (simp [intOf]; omega)
      · skip
        skip
        have hor : bits .or .u64 ((q : Int)) ((y : Int) * 4294967296) = ((q + y * 4294967296 : Nat) : Int) := by
          have h1 : q < 2 ^ 32 := HQ.out
          rw [show (y : Int) * 4294967296 = ((y * 4294967296 : Nat) : Int) by omega]
          exact or_pow q y 32 h1 (by omega) (by decide)
        go_wp2
        go_roundw
        case rel => exact ⟨5, by omega, by rw [HU.out]; refine congrArg (Value.int .u64) ?_; first | omega | (simp; done) | (simp; omega), by go_num, trivial⟩
        case measure => first | (simp [intOf]; done) | (simp [intOf]; omega)
      · skip
        skip
        have hor : bits .or .u64 ((q : Int)) ((y : Int) * 1099511627776) = ((q + y * 1099511627776 : Nat) : Int) := by
          have h1 : q < 2 ^ 40 := HQ.out
          rw [show (y : Int) * 1099511627776 = ((y * 1099511627776 : Nat) : Int) by omega]
          exact or_pow q y 40 h1 (by omega) (by decide)
        go_wp2
        go_roundw
        case rel => exact ⟨6, by omega, by rw [HU.out]; refine congrArg (Value.int .u64) ?_; first | omega | (simp; done) | (simp; omega), by go_num, trivial⟩
        case measure => first | (simp [intOf]; done) | (simp [intOf]; omega)
      · skip
        skip
        have hor : bits .or .u64 ((q : Int)) ((y : Int) * 281474976710656) = ((q + y * 281474976710656 : Nat) : Int) := by
          have h1 : q < 2 ^ 48 := HQ.out
          rw [show (y : Int) * 281474976710656 = ((y * 281474976710656 : Nat) : Int) by omega]
          exact or_pow q y 48 h1 (by omega) (by decide)
        go_wp2
        go_roundw
        case rel => exact ⟨7, by omega, by rw [HU.out]; refine congrArg (Value.int .u64) ?_; first | omega | (simp; done) | (simp; omega), by go_num, trivial⟩
        case measure => first | (simp [intOf]; done) | (simp [intOf]; omega)
      · skip
        skip
        have hor : bits .or .u64 ((q : Int)) ((y : Int) * 72057594037927936) = ((q + y * 72057594037927936 : Nat) : Int) := by
          have h1 : q < 2 ^ 56 := HQ.out
          rw [show (y : Int) * 72057594037927936 = ((y * 72057594037927936 : Nat) : Int) by omega]
          exact or_pow q y 56 h1 (by omega) (by decide)
        go_wp2
        go_roundw
        case rel => exact ⟨8, by omega, by rw [HU.out]; refine congrArg (Value.int .u64) ?_; first | omega | (simp; done) | (simp; omega), by go_num, trivial⟩
        case measure => first | (simp [intOf]; done) | (simp [intOf]; omega)
    · obtain rfl : k = 8 := by omega
      have HV : Hid (unle ((bs.drop p).take 8) < 256 ^ 8) := Lib.hid (Nat.lt_of_lt_of_le (unle_lt _) (Nat.pow_le_pow_right (by decide) (by rw [List.length_take]; omega)))
      obtain ⟨q, hq⟩ : ∃ q, q = unle ((bs.drop p).take 8) := ⟨_, rfl⟩
      rw [← hq] at HV ⊢
      have hqv : (q : Int) % 18446744073709551616 = (q : Int) := by have := HV.out; omega
      have k2 : Blk wr b2 60 #[.int .u64 x0] := (HT.out.2.block b2 H2.out.lt hrb2).trans H2.out
      have c2 := k2.cell 0
      have f2 := k2.frozen 0
      have l2 := k2.lt
      have K2 := Lib.hid k2
      have HQE := Lib.hid hq
      clear hq k2
      go_wp2
      go_end0
      refine ⟨rfl, HTR.out.keep (Below.heap_setCell wr ⟨b2, 0, none⟩ _ r (fun e => hrb2 e.symm)) (Below.heap_setCell wr ⟨b2, 0, none⟩ _ g hgb2), ?_, ?_⟩
      · rw [← HQE.out]; exact (K2.out.set_ 0 (.int .u64 (q : Int))).cell 0
      · exact ((Touch.drewN w 1).trans (HT.out.2.mono fun i _ hi => .inl (.inl hi))).set (G := fun i => i = r ∨ i = b2) (.inr rfl) _
end Go.Proofs.Ytdiaihpilniikaa
