/- A reading that gives nothing up: what it does is done.; A reader of bytes: its readings' insides.; A reader of bytes: Open, Take, Bytes, End. -/
import Derived.Test.YtcbebefdbdppdaaGreatM18
import Derived.Test.YtcbebefdbdppdaaGreatM12
import Derived.Deep.RegionHeld3
import Derived.Laws.BitsAllLaws
import Derived.Laws.Shifts
import Derived.Test.YtcbebefdbdppdaaGreatM4
namespace Go.Proofs.YtcbebefdbdppdaaGreat
open Go.RowKit Go.Maps
set_option maxRecDepth 100000 in
set_option maxHeartbeats 4000000 in
theorem reading_bytes (r : Nat) (v : Value) (a : Int) (p0 p1 p2 : Addr) (w : World) (Q : World → Prop) (hr : Blk w r 286 #[v, .int .i64 a, .int .i64 0])
    (hdo : ∀ W, Below w.heap.size w W → Calls Tryz.prog 203 #[.pointer (some p0), .pointer (some p1), .pointer (some p2)] W fun e w' => e = .returned (.tuple #[]) ∧ Q w') :
    Calls Tryz.prog 202 #[.pointer (some ⟨r, 0, none⟩), .func (.func 203) #[] #[.pointer (some p0), .pointer (some p1), .pointer (some p2)]] w fun e w' => e = .returned (.tuple #[]) ∧ Q w' := by
  have hmf : ∀ (fn : Fn) (first cap : Array Value) (w : World), (Instr.makeFunc fn first cap).run Tryz.prog w = .ok (.func fn first cap) w := fun _ _ _ _ => rfl
  have f1 : w.cell? ⟨r, 1, none⟩ = some (.int .i64 a) := hr.cell 1
  have f2 : w.cell? ⟨r, 2, none⟩ = some (.int .i64 0) := hr.cell 2
  have hl := hr.lt
  have HD := Lib.hid hdo
  clear hr hdo
  go_enter_defers Tryz.func202, Tryz.ntmps202
  go_wp2_with (go_at_call 203; refine (HD.out _ (((Below.refl _ w).alloc (Nat.le_refl _) _).alloc (by rw [alloc_size]; omega) _)).mono ?_; rintro e w1 ⟨rfl, hq⟩)
  refine leaves_cons (f := 223) (args := #[.pointer (some ⟨w.heap.size + 1, 0, none⟩), .pointer (some ⟨w.heap.size, 0, none⟩)]) (by simp) (by simp [go_sem]) ?_
  refine (rescue_idle ⟨w.heap.size + 1, 0, none⟩ ⟨w.heap.size, 0, none⟩ w1).mono ?_
  rintro e u' w'' ⟨rfl, rfl, rfl⟩
  simp [Leaves, settle, results, Tryz.results202, go_sem]
  exact hq
set_option maxRecDepth 100000 in
set_option maxHeartbeats 4000000 in
theorem reading_u8 (r : Nat) (v : Value) (a : Int) (p0 p1 : Addr) (w : World) (Q : World → Prop) (hr : Blk w r 286 #[v, .int .i64 a, .int .i64 0])
    (hdo : ∀ W, Below w.heap.size w W → Calls Tryz.prog 206 #[.pointer (some p0), .pointer (some p1)] W fun e w' => e = .returned (.tuple #[]) ∧ Q w') :
    Calls Tryz.prog 202 #[.pointer (some ⟨r, 0, none⟩), .func (.func 206) #[] #[.pointer (some p0), .pointer (some p1)]] w fun e w' => e = .returned (.tuple #[]) ∧ Q w' := by
  have hmf : ∀ (fn : Fn) (first cap : Array Value) (w : World), (Instr.makeFunc fn first cap).run Tryz.prog w = .ok (.func fn first cap) w := fun _ _ _ _ => rfl
  have f1 : w.cell? ⟨r, 1, none⟩ = some (.int .i64 a) := hr.cell 1
  have f2 : w.cell? ⟨r, 2, none⟩ = some (.int .i64 0) := hr.cell 2
  have hl := hr.lt
  have HD := Lib.hid hdo
  clear hr hdo
  go_enter_defers Tryz.func202, Tryz.ntmps202
  go_wp2_with (go_at_call 206; refine (HD.out _ (((Below.refl _ w).alloc (Nat.le_refl _) _).alloc (by rw [alloc_size]; omega) _)).mono ?_; rintro e w1 ⟨rfl, hq⟩)
  refine leaves_cons (f := 223) (args := #[.pointer (some ⟨w.heap.size + 1, 0, none⟩), .pointer (some ⟨w.heap.size, 0, none⟩)]) (by simp) (by simp [go_sem]) ?_
  refine (rescue_idle ⟨w.heap.size + 1, 0, none⟩ ⟨w.heap.size, 0, none⟩ w1).mono ?_
  rintro e u' w'' ⟨rfl, rfl, rfl⟩
  simp [Leaves, settle, results, Tryz.results202, go_sem]
  exact hq
set_option maxRecDepth 100000 in
set_option maxHeartbeats 4000000 in
theorem reading_u32 (r : Nat) (v : Value) (a : Int) (p0 p1 : Addr) (w : World) (Q : World → Prop) (hr : Blk w r 286 #[v, .int .i64 a, .int .i64 0])
    (hdo : ∀ W, Below w.heap.size w W → Calls Tryz.prog 208 #[.pointer (some p0), .pointer (some p1)] W fun e w' => e = .returned (.tuple #[]) ∧ Q w') :
    Calls Tryz.prog 202 #[.pointer (some ⟨r, 0, none⟩), .func (.func 208) #[] #[.pointer (some p0), .pointer (some p1)]] w fun e w' => e = .returned (.tuple #[]) ∧ Q w' := by
  have hmf : ∀ (fn : Fn) (first cap : Array Value) (w : World), (Instr.makeFunc fn first cap).run Tryz.prog w = .ok (.func fn first cap) w := fun _ _ _ _ => rfl
  have f1 : w.cell? ⟨r, 1, none⟩ = some (.int .i64 a) := hr.cell 1
  have f2 : w.cell? ⟨r, 2, none⟩ = some (.int .i64 0) := hr.cell 2
  have hl := hr.lt
  have HD := Lib.hid hdo
  clear hr hdo
  go_enter_defers Tryz.func202, Tryz.ntmps202
  go_wp2_with (go_at_call 208; refine (HD.out _ (((Below.refl _ w).alloc (Nat.le_refl _) _).alloc (by rw [alloc_size]; omega) _)).mono ?_; rintro e w1 ⟨rfl, hq⟩)
  refine leaves_cons (f := 223) (args := #[.pointer (some ⟨w.heap.size + 1, 0, none⟩), .pointer (some ⟨w.heap.size, 0, none⟩)]) (by simp) (by simp [go_sem]) ?_
  refine (rescue_idle ⟨w.heap.size + 1, 0, none⟩ ⟨w.heap.size, 0, none⟩ w1).mono ?_
  rintro e u' w'' ⟨rfl, rfl, rfl⟩
  simp [Leaves, settle, results, Tryz.results202, go_sem]
  exact hq
end Go.Proofs.YtcbebefdbdppdaaGreat
namespace Go.Proofs.YtcbebefdbdppdaaGreat
open Go.RowKit Go.Maps
structure RdAt (w : World) (r g n c p : Nat) (bs : List UInt8) : Prop where
  head : Blk w r 286 #[.slice (some ⟨g, 0, none⟩) n c, .int .i64 (p : Int), .int .i64 0]
  row : w.ownsRow 0 5 1 (.slice (some ⟨g, 0, none⟩) n c) n (bs.map B8)
  small : n ≤ 1000000
theorem RdAt.nc {w : World} {r g n c p : Nat} {bs : List UInt8} (h : RdAt w r g n c p bs) : n ≤ c := by
  obtain ⟨a, c', hv, hn⟩ := own_shape h.row
  injection hv with e1 e2 e3
  omega
theorem RdAt.ne {w : World} {r g n c p : Nat} {bs : List UInt8} (h : RdAt w r g n c p bs) : g ≠ r := by
  obtain ⟨cur, hg⟩ : ∃ cur, Blk w g 5 cur := by
    rcases h.row.2 with ⟨hv, _⟩ | ⟨g', cap, cur, hv, _, hb, _⟩
    · cases hv
    · injection hv with e1 e2 e3
      injection e1 with e1
      injection e1 with e1
      subst e1
      exact ⟨cur, hb⟩
  exact hg.ne_ h.head (by decide)
theorem RdAt.took {w w' : World} {r g n c p m k : Nat} {bs : List UInt8} (h : RdAt w r g n c p bs) (hw : w' = (w.drewN k).setCell ⟨r, 1, none⟩ (.int .i64 ((p + m : Nat) : Int))) : RdAt w' r g n c (p + m) bs ∧ Touch (· = r) w w' := by
  subst hw
  refine ⟨⟨?_, ?_, h.small⟩, ?_⟩
  · exact (h.head.drewN k).set_ 1 _
  · refine ownsRow_keep h.row fun i hi => ?_
    have : i = g := (Option.some.inj hi).symm
    subst this
    exact (h.row.lt i hi).2 |> fun _ => Below.heap_setCell (w.drewN k) ⟨r, 1, none⟩ _ i h.ne
  · exact (Touch.drewN w k).set (G := (· = r)) rfl _
theorem RdAt.keep {w w' : World} {r g n c p : Nat} {bs : List UInt8} (h : RdAt w r g n c p bs) (h1 : w'.heap[r]? = w.heap[r]?) (h2 : w'.heap[g]? = w.heap[g]?) : RdAt w' r g n c p bs :=
  ⟨h1.trans h.head, ownsRow_keep h.row fun i hi => by have : i = g := (Option.some.inj hi).symm; subst this; exact h2, h.small⟩
theorem RdAt.glt {w : World} {r g n c p : Nat} {bs : List UInt8} (h : RdAt w r g n c p bs) : g < w.heap.size := (h.row.lt g rfl).2
theorem RdAt.below {w w' : World} {r g n c p : Nat} {bs : List UInt8} (h : RdAt w r g n c p bs) (hb : Below w.heap.size w w') : RdAt w' r g n c p bs := h.keep (hb.block r h.head.lt) (hb.block g h.glt)
theorem RdAt.byte {w : World} {r g n c p : Nat} {bs : List UInt8} (h : RdAt w r g n c p bs) {j : Nat} (hj : j < n) : ∃ x, bs[j]? = some x ∧ w.cell? ⟨g, j, none⟩ = some (.int .u8 (x.toNat : Int)) := by
  have hr := Reads.of_own h.row
  obtain ⟨ad, u, ha, _, hu, hc⟩ := hr.at_ hj
  injection ha with ha
  subst ha
  rw [add_plain, Nat.zero_add] at hc
  rw [List.getElem?_map] at hu
  cases hx : bs[j]? with
  | none => rw [hx] at hu; cases hu
  | some x => rw [hx] at hu; exact ⟨x, rfl, by rw [hc]; exact hu.symm⟩
theorem or_pow (q y i : Nat) (hq : q < 2 ^ i) (hy : y * 2 ^ i < 18446744073709551616) (hi : 2 ^ i < 18446744073709551616) : bits .or .u64 (q : Int) ((y * 2 ^ i : Nat) : Int) = ((q + y * 2 ^ i : Nat) : Int) := by
  rw [u64_or_nat q (y * 2 ^ i) (by omega) hy, Nat.or_comm, ← Nat.shiftLeft_eq, ← Nat.shiftLeft_add_eq_or_of_lt hq, Nat.add_comm]
theorem unle_append (l m : List UInt8) : unle (l ++ m) = unle l + 256 ^ l.length * unle m := by
  induction l with
  | nil => simp [unle]
  | cons x l ih =>
    show x.toNat + 256 * unle (l ++ m) = x.toNat + 256 * unle l + 256 ^ (l.length + 1) * unle m
    rw [ih, Nat.pow_succ, Nat.mul_add, Nat.mul_comm (256 ^ l.length) 256, Nat.mul_assoc]
    omega
theorem unle_take {l : List UInt8} {k : Nat} {x : UInt8} (h : l[k]? = some x) : unle (l.take (k + 1)) = unle (l.take k) + x.toNat * 256 ^ k := by
  have hl : k < l.length := (List.getElem?_eq_some_iff.1 h).1
  rw [List.take_add_one, h, unle_append]
  show _ + 256 ^ (l.take k).length * (x.toNat + 256 * 0) = _
  rw [List.length_take, Nat.min_eq_left (by omega), Nat.mul_zero, Nat.add_zero, Nat.mul_comm]
set_option maxRecDepth 100000 in
set_option maxHeartbeats 8000000 in
theorem take8_in (r g n c p : Nat) (bs : List UInt8) (b1 b2 : Nat) (x0 : Int) (w : World) (h : RdAt w r g n c p bs) (hp : p + 1 ≤ n)
    (h1 : w.cell? ⟨b1, 0, none⟩ = some (.pointer (some ⟨r, 0, none⟩))) (h2 : Blk w b2 5 #[.int .u8 x0]) (hgb2 : g ≠ b2) :
    Calls Tryz.prog 206 #[.pointer (some ⟨b1, 0, none⟩), .pointer (some ⟨b2, 0, none⟩)] w fun e w' => e = .returned (.tuple #[]) ∧
      (RdAt w' r g n c (p + 1) bs ∧ w'.cell? ⟨b2, 0, none⟩ = some (.int .u8 (unle ((bs.drop p).take 1) : Nat)) ∧ Touch (fun i => i = r ∨ i = b2) w w') := by
  have HR := Lib.hid h
  have hnc := h.nc
  have hsm := h.small
  have hrb1 : b1 ≠ r := by
    intro e
    subst e
    have := h.head.cell 0
    rw [h1] at this
    cases this
  have hrb2 : b2 ≠ r := h2.ne_ h.head (by decide)
  have H2 := Lib.hid h2
  have H1 := Lib.hid h1
  have hm0 : (1 : Nat) ≤ n := by omega
  have HR2 := Lib.hid h
  clear h h2
  go_enter Tryz.func206, Tryz.ntmps206
  go_wp2_with fail
  have h1' : w.drew.cell? ⟨b1, 0, none⟩ = some (.pointer (some ⟨r, 0, none⟩)) := h1
  go_region_held3 (fun w' => w'.cell? ⟨b1, 0, none⟩ = some (.pointer (some ⟨r, 0, none⟩))) (first | with_reducible assumption | go_keep)
    (first
      | (go_at_call 207; refine (width8_any _).mono ?_; rintro e w' ⟨rfl, rfl⟩)
      | (go_at_call 205; refine (take_any r g n c p 1 w.drew HR.out.head hp hnc hsm (by decide)).mono ?_; rintro e w1 ⟨rfl, kk, hw1⟩; have HT := Lib.hid (RdAt.took (w := w.drew) ⟨HR.out.head, HR.out.row, hsm⟩ hw1); have h1'' : w1.cell? ⟨b1, 0, none⟩ = some (.pointer (some ⟨r, 0, none⟩)) := (World.cell?_of_block (HT.out.2.block b1 (World.block_lt_of_cell? w.drew _ h1') hrb1)).trans h1'; clear hw1))
  have hln : bs.length = n := by have := HR.out.row.1; simpa using this
  have HTR := Lib.hid HT.out.1
  have hp0 : (0 : Int) ≤ (p : Int) := Int.natCast_nonneg _
  go_wp2_with fail
  go_loopw [2, 3, 4, 10] (fun s2 _ _ s10 wr => ∃ k : Nat, k ≤ 1 ∧ s2 = .int .u64 (unle ((bs.drop p).take k) : Nat) ∧ s10 = .int .i64 k ∧ wr = w1) (fun _ _ _ s _ => 1 - (intOf s).toNat)
  case atStart => exact ⟨0, Nat.zero_le _, rfl, rfl, rfl⟩
  case round =>
    obtain ⟨k, hk, rfl, rfl, rfl⟩ := hrel
    by_cases hlt : k < 1
    · obtain ⟨x, hx, hcx⟩ := HTR.out.byte (j := p + k) (by omega)
      have HU : Hid (unle ((bs.drop p).take (k + 1)) = unle ((bs.drop p).take k) + x.toNat * 256 ^ k) := Lib.hid (unle_take (by rw [List.getElem?_drop]; exact hx))
      have HQ : Hid (unle ((bs.drop p).take k) < 256 ^ k) := Lib.hid (Nat.lt_of_lt_of_le (unle_lt _) (Nat.pow_le_pow_right (by decide) (by rw [List.length_take]; omega)))
      obtain ⟨q, hq⟩ : ∃ q, q = unle ((bs.drop p).take k) := ⟨_, rfl⟩
      obtain ⟨y, hy⟩ : ∃ y : Nat, y = x.toNat := ⟨_, rfl⟩
      have hy2 : y < 256 := by rw [hy]; exact x.toNat_lt
      rw [← hq] at HU HQ ⊢
      rw [← hy] at HU hcx
      clear hq hy hx
      obtain rfl : k = 0 := by omega
      · rw [Nat.add_zero] at hcx
        obtain rfl : q = 0 := by have := HQ.out; omega
        have hor : bits .or .u64 (0) ((y : Int)) = ((0 + y * 1 : Nat) : Int) := by
          have h1 : 0 < 2 ^ 0 := by decide
          rw [show (y : Int) = ((y * 1 : Nat) : Int) by omega]
          exact or_pow 0 y 0 h1 (by omega) (by decide)
        go_wp2
        go_roundw
        case rel => exact ⟨1, by omega, by rw [HU.out]; refine congrArg (Value.int .u64) ?_; first | omega | (simp; done) | (simp; omega), by go_num, trivial⟩
        case measure => first | (simp [intOf]; done) | (simp [intOf]; omega)
    · obtain rfl : k = 1 := by omega
      have HV : Hid (unle ((bs.drop p).take 1) < 256 ^ 1) := Lib.hid (Nat.lt_of_lt_of_le (unle_lt _) (Nat.pow_le_pow_right (by decide) (by rw [List.length_take]; omega)))
      obtain ⟨q, hq⟩ : ∃ q, q = unle ((bs.drop p).take 1) := ⟨_, rfl⟩
      rw [← hq] at HV ⊢
      have hqv : (q : Int) % 256 = (q : Int) := by have := HV.out; omega
      have k2 : Blk wr b2 5 #[.int .u8 x0] := (HT.out.2.block b2 H2.out.lt hrb2).trans H2.out
      have c2 := k2.cell 0
      have f2 := k2.frozen 0
      have l2 := k2.lt
      have K2 := Lib.hid k2
      have HQE := Lib.hid hq
      clear hq k2
      go_wp2
      go_end0
      refine ⟨rfl, HTR.out.keep (Below.heap_setCell wr ⟨b2, 0, none⟩ _ r (fun e => hrb2 e.symm)) (Below.heap_setCell wr ⟨b2, 0, none⟩ _ g hgb2), ?_, ?_⟩
      · rw [← HQE.out]; exact (K2.out.set_ 0 (.int .u8 (q : Int))).cell 0
      · exact ((Touch.drewN w 1).trans (HT.out.2.mono fun i _ hi => .inl (.inl hi))).set (G := fun i => i = r ∨ i = b2) (.inr rfl) _
set_option maxRecDepth 100000 in
set_option maxHeartbeats 8000000 in
theorem take32_in (r g n c p : Nat) (bs : List UInt8) (b1 b2 : Nat) (x0 : Int) (w : World) (h : RdAt w r g n c p bs) (hp : p + 4 ≤ n)
    (h1 : w.cell? ⟨b1, 0, none⟩ = some (.pointer (some ⟨r, 0, none⟩))) (h2 : Blk w b2 32 #[.int .u32 x0]) (hgb2 : g ≠ b2) :
    Calls Tryz.prog 208 #[.pointer (some ⟨b1, 0, none⟩), .pointer (some ⟨b2, 0, none⟩)] w fun e w' => e = .returned (.tuple #[]) ∧
      (RdAt w' r g n c (p + 4) bs ∧ w'.cell? ⟨b2, 0, none⟩ = some (.int .u32 (unle ((bs.drop p).take 4) : Nat)) ∧ Touch (fun i => i = r ∨ i = b2) w w') := by
  have HR := Lib.hid h
  have hnc := h.nc
  have hsm := h.small
  have hrb1 : b1 ≠ r := by
    intro e
    subst e
    have := h.head.cell 0
    rw [h1] at this
    cases this
  have hrb2 : b2 ≠ r := h2.ne_ h.head (by decide)
  have H2 := Lib.hid h2
  have H1 := Lib.hid h1
  have hm0 : (4 : Nat) ≤ n := by omega
  have HR2 := Lib.hid h
  clear h h2
  go_enter Tryz.func208, Tryz.ntmps208
  go_wp2_with fail
  have h1' : w.drew.cell? ⟨b1, 0, none⟩ = some (.pointer (some ⟨r, 0, none⟩)) := h1
  go_region_held3 (fun w' => w'.cell? ⟨b1, 0, none⟩ = some (.pointer (some ⟨r, 0, none⟩))) (first | with_reducible assumption | go_keep)
    (first
      | (go_at_call 168; refine (width32_any _).mono ?_; rintro e w' ⟨rfl, rfl⟩)
      | (go_at_call 205; refine (take_any r g n c p 4 w.drew HR.out.head hp hnc hsm (by decide)).mono ?_; rintro e w1 ⟨rfl, kk, hw1⟩; have HT := Lib.hid (RdAt.took (w := w.drew) ⟨HR.out.head, HR.out.row, hsm⟩ hw1); have h1'' : w1.cell? ⟨b1, 0, none⟩ = some (.pointer (some ⟨r, 0, none⟩)) := (World.cell?_of_block (HT.out.2.block b1 (World.block_lt_of_cell? w.drew _ h1') hrb1)).trans h1'; clear hw1))
  have hln : bs.length = n := by have := HR.out.row.1; simpa using this
  have HTR := Lib.hid HT.out.1
  have hp0 : (0 : Int) ≤ (p : Int) := Int.natCast_nonneg _
  go_wp2_with fail
  go_loopw [2, 3, 4, 10] (fun s2 _ _ s10 wr => ∃ k : Nat, k ≤ 4 ∧ s2 = .int .u64 (unle ((bs.drop p).take k) : Nat) ∧ s10 = .int .i64 k ∧ wr = w1) (fun _ _ _ s _ => 4 - (intOf s).toNat)
  case atStart => exact ⟨0, Nat.zero_le _, rfl, rfl, rfl⟩
  case round =>
    obtain ⟨k, hk, rfl, rfl, rfl⟩ := hrel
    by_cases hlt : k < 4
    · obtain ⟨x, hx, hcx⟩ := HTR.out.byte (j := p + k) (by omega)
      have HU : Hid (unle ((bs.drop p).take (k + 1)) = unle ((bs.drop p).take k) + x.toNat * 256 ^ k) := Lib.hid (unle_take (by rw [List.getElem?_drop]; exact hx))
      have HQ : Hid (unle ((bs.drop p).take k) < 256 ^ k) := Lib.hid (Nat.lt_of_lt_of_le (unle_lt _) (Nat.pow_le_pow_right (by decide) (by rw [List.length_take]; omega)))
      obtain ⟨q, hq⟩ : ∃ q, q = unle ((bs.drop p).take k) := ⟨_, rfl⟩
      obtain ⟨y, hy⟩ : ∃ y : Nat, y = x.toNat := ⟨_, rfl⟩
      have hy2 : y < 256 := by rw [hy]; exact x.toNat_lt
      rw [← hq] at HU HQ ⊢
      rw [← hy] at HU hcx
      clear hq hy hx
      obtain rfl | rfl | rfl | rfl : k = 0 ∨ k = 1 ∨ k = 2 ∨ k = 3 := by omega
      · rw [Nat.add_zero] at hcx
        obtain rfl : q = 0 := by have := HQ.out; omega
        have hor : bits .or .u64 (0) ((y : Int)) = ((0 + y * 1 : Nat) : Int) := by
          have h1 : 0 < 2 ^ 0 := by decide
          rw [show (y : Int) = ((y * 1 : Nat) : Int) by omega]
          exact or_pow 0 y 0 h1 (by omega) (by decide)
        go_wp2
        go_roundw
        case rel => exact ⟨1, by omega, by rw [HU.out]; refine congrArg (Value.int .u64) ?_; first | omega | (simp; done) | (simp; omega), by go_num, trivial⟩
        case measure => first | (simp [intOf]; done) | (simp [intOf]; omega)
      · skip
        skip
        have hor : bits .or .u64 ((q : Int)) ((y : Int) * 256) = ((q + y * 256 : Nat) : Int) := by
          have h1 : q < 2 ^ 8 := HQ.out
          rw [show (y : Int) * 256 = ((y * 256 : Nat) : Int) by omega]
          exact or_pow q y 8 h1 (by omega) (by decide)
        go_wp2
        go_roundw
        case rel => exact ⟨2, by omega, by rw [HU.out]; refine congrArg (Value.int .u64) ?_; first | omega | (simp; done) | (simp; omega), by go_num, trivial⟩
        case measure => first | (simp [intOf]; done) | (simp [intOf]; omega)
      · skip
        skip
        have hor : bits .or .u64 ((q : Int)) ((y : Int) * 65536) = ((q + y * 65536 : Nat) : Int) := by
          have h1 : q < 2 ^ 16 := HQ.out
          rw [show (y : Int) * 65536 = ((y * 65536 : Nat) : Int) by omega]
          exact or_pow q y 16 h1 (by omega) (by decide)
        go_wp2
        go_roundw
        case rel => exact ⟨3, by omega, by rw [HU.out]; refine congrArg (Value.int .u64) ?_; first | omega | (simp; done) | (simp; omega), by go_num, trivial⟩
        case measure => first | (simp [intOf]; done) | (simp [intOf]; omega)
      · skip
        skip
        have hor : bits .or .u64 ((q : Int)) ((y : Int) * 16777216) = ((q + y * 16777216 : Nat) : Int) := by
          have h1 : q < 2 ^ 24 := HQ.out
          rw [show (y : Int) * 16777216 = ((y * 16777216 : Nat) : Int) by omega]
          exact or_pow q y 24 h1 (by omega) (by decide)
        go_wp2
        go_roundw
        case rel => exact ⟨4, by omega, by rw [HU.out]; refine congrArg (Value.int .u64) ?_; first | omega | (simp; done) | (simp; omega), by go_num, trivial⟩
        case measure => first | (simp [intOf]; done) | (simp [intOf]; omega)
    · obtain rfl : k = 4 := by omega
      have HV : Hid (unle ((bs.drop p).take 4) < 256 ^ 4) := Lib.hid (Nat.lt_of_lt_of_le (unle_lt _) (Nat.pow_le_pow_right (by decide) (by rw [List.length_take]; omega)))
      obtain ⟨q, hq⟩ : ∃ q, q = unle ((bs.drop p).take 4) := ⟨_, rfl⟩
      rw [← hq] at HV ⊢
      have hqv : (q : Int) % 4294967296 = (q : Int) := by have := HV.out; omega
      have k2 : Blk wr b2 32 #[.int .u32 x0] := (HT.out.2.block b2 H2.out.lt hrb2).trans H2.out
      have c2 := k2.cell 0
      have f2 := k2.frozen 0
      have l2 := k2.lt
      have K2 := Lib.hid k2
      have HQE := Lib.hid hq
      clear hq k2
      go_wp2
      go_end0
      refine ⟨rfl, HTR.out.keep (Below.heap_setCell wr ⟨b2, 0, none⟩ _ r (fun e => hrb2 e.symm)) (Below.heap_setCell wr ⟨b2, 0, none⟩ _ g hgb2), ?_, ?_⟩
      · rw [← HQE.out]; exact (K2.out.set_ 0 (.int .u32 (q : Int))).cell 0
      · exact ((Touch.drewN w 1).trans (HT.out.2.mono fun i _ hi => .inl (.inl hi))).set (G := fun i => i = r ∨ i = b2) (.inr rfl) _
end Go.Proofs.YtcbebefdbdppdaaGreat
namespace Go.Proofs.YtcbebefdbdppdaaGreat
open Go.RowKit Go.Maps
theorem touch_back {w W W2 : World} {r b2 : Nat} (hb : Below w.heap.size w W) (hr : Touch (fun i => i = r ∨ i = b2) W W2) (h2 : w.heap.size ≤ b2) : Touch (· = r) w W2 :=
  (Touch.of_below hb).trans (hr.mono fun i hi h => by
    rcases h with h | h
    · exact .inl h
    · exact .inr ⟨by omega, hi⟩)
set_option maxRecDepth 100000 in
set_option maxHeartbeats 4000000 in
theorem take8_any (r g n c p : Nat) (bs : List UInt8) (w : World) (h : RdAt w r g n c p bs) (hp : p + 1 ≤ n) :
    Calls Tryz.prog 173 #[.pointer (some ⟨r, 0, none⟩)] w fun e w' => e = .returned (.int .u8 (unle ((bs.drop p).take 1) : Nat)) ∧ RdAt w' r g n c (p + 1) bs ∧ Touch (· = r) w w' := by
  have hmf : ∀ (fn : Fn) (first cap : Array Value) (w : World), (Instr.makeFunc fn first cap).run Tryz.prog w = .ok (.func fn first cap) w := fun _ _ _ _ => rfl
  obtain ⟨W, hW⟩ : ∃ W, W = (w.alloc (.cells #[.pointer (some ⟨r, 0, none⟩)] 262)).alloc (.cells #[.int .u8 0] 5) := ⟨_, rfl⟩
  have hbW : Below w.heap.size w W := by rw [hW]; exact ((Below.refl _ w).alloc (Nat.le_refl _) _).alloc (by rw [alloc_size]; omega) _
  have hB1 : Blk W w.heap.size 262 #[.pointer (some ⟨r, 0, none⟩)] := by rw [hW]; exact (Blk.new w _ _).alloc _
  have hB2 : Blk W (w.heap.size + 1) 5 #[.int .u8 0] := by rw [hW]; exact blk_last _ _ _ _ (by rw [alloc_size])
  have hrl := h.head.lt
  have hgl := h.glt
  have HK : Hid (Calls Tryz.prog 202 #[.pointer (some ⟨r, 0, none⟩), .func (.func 206) #[] #[.pointer (some ⟨w.heap.size, 0, none⟩), .pointer (some ⟨w.heap.size + 1, 0, none⟩)]] W fun e w' => e = .returned (.tuple #[]) ∧ (RdAt w' r g n c (p + 1) bs ∧ w'.cell? ⟨w.heap.size + 1, 0, none⟩ = some (.int .u8 (unle ((bs.drop p).take 1) : Nat)) ∧ Touch (· = r) w w')) := Lib.hid (by
    refine reading_u8 r _ _ _ _ W _ (h.below hbW).head fun W2 hb2 => ?_
    have h2 := hbW.size
    refine (take8_in r g n c p bs w.heap.size (w.heap.size + 1) 0 W2 ((h.below hbW).below hb2) hp ((hb2.cell (p := ⟨w.heap.size, 0, none⟩) hB1.lt).trans (hB1.cell 0)) (hB2.below hb2 hB2.lt) (by omega)).mono ?_
    rintro e w' ⟨he, h3, h4, h5⟩
    exact ⟨he, h3, h4, touch_back (hbW.trans (hb2.mono h2)) h5 (by omega)⟩)
  have HW := Lib.hid hW
  obtain ⟨q, hq⟩ : ∃ q, q = unle ((bs.drop p).take 1) := ⟨_, rfl⟩
  rw [← hq] at HK ⊢
  clear hq hW hbW hB1 hB2 hgl
  go_enter Tryz.func173, Tryz.ntmps173
  go_wp2_with (go_at_call 202; rw [← HW.out]; refine HK.out.mono ?_; rintro e w1 ⟨rfl, h3, h4, h5⟩; have H3 := Lib.hid h3; have H5 := Lib.hid h5; clear h3 h5)
  go_ret
  exact ⟨rfl, H3.out, H5.out⟩
set_option maxRecDepth 100000 in
set_option maxHeartbeats 4000000 in
theorem take32_any (r g n c p : Nat) (bs : List UInt8) (w : World) (h : RdAt w r g n c p bs) (hp : p + 4 ≤ n) :
    Calls Tryz.prog 174 #[.pointer (some ⟨r, 0, none⟩)] w fun e w' => e = .returned (.int .u32 (unle ((bs.drop p).take 4) : Nat)) ∧ RdAt w' r g n c (p + 4) bs ∧ Touch (· = r) w w' := by
  have hmf : ∀ (fn : Fn) (first cap : Array Value) (w : World), (Instr.makeFunc fn first cap).run Tryz.prog w = .ok (.func fn first cap) w := fun _ _ _ _ => rfl
  obtain ⟨W, hW⟩ : ∃ W, W = (w.alloc (.cells #[.pointer (some ⟨r, 0, none⟩)] 262)).alloc (.cells #[.int .u32 0] 32) := ⟨_, rfl⟩
  have hbW : Below w.heap.size w W := by rw [hW]; exact ((Below.refl _ w).alloc (Nat.le_refl _) _).alloc (by rw [alloc_size]; omega) _
  have hB1 : Blk W w.heap.size 262 #[.pointer (some ⟨r, 0, none⟩)] := by rw [hW]; exact (Blk.new w _ _).alloc _
  have hB2 : Blk W (w.heap.size + 1) 32 #[.int .u32 0] := by rw [hW]; exact blk_last _ _ _ _ (by rw [alloc_size])
  have hrl := h.head.lt
  have hgl := h.glt
  have HK : Hid (Calls Tryz.prog 202 #[.pointer (some ⟨r, 0, none⟩), .func (.func 208) #[] #[.pointer (some ⟨w.heap.size, 0, none⟩), .pointer (some ⟨w.heap.size + 1, 0, none⟩)]] W fun e w' => e = .returned (.tuple #[]) ∧ (RdAt w' r g n c (p + 4) bs ∧ w'.cell? ⟨w.heap.size + 1, 0, none⟩ = some (.int .u32 (unle ((bs.drop p).take 4) : Nat)) ∧ Touch (· = r) w w')) := Lib.hid (by
    refine reading_u32 r _ _ _ _ W _ (h.below hbW).head fun W2 hb2 => ?_
    have h2 := hbW.size
    refine (take32_in r g n c p bs w.heap.size (w.heap.size + 1) 0 W2 ((h.below hbW).below hb2) hp ((hb2.cell (p := ⟨w.heap.size, 0, none⟩) hB1.lt).trans (hB1.cell 0)) (hB2.below hb2 hB2.lt) (by omega)).mono ?_
    rintro e w' ⟨he, h3, h4, h5⟩
    exact ⟨he, h3, h4, touch_back (hbW.trans (hb2.mono h2)) h5 (by omega)⟩)
  have HW := Lib.hid hW
  obtain ⟨q, hq⟩ : ∃ q, q = unle ((bs.drop p).take 4) := ⟨_, rfl⟩
  rw [← hq] at HK ⊢
  clear hq hW hbW hB1 hB2 hgl
  go_enter Tryz.func174, Tryz.ntmps174
  go_wp2_with (go_at_call 202; rw [← HW.out]; refine HK.out.mono ?_; rintro e w1 ⟨rfl, h3, h4, h5⟩; have H3 := Lib.hid h3; have H5 := Lib.hid h5; clear h3 h5)
  go_ret
  exact ⟨rfl, H3.out, H5.out⟩
set_option maxRecDepth 100000 in
set_option maxHeartbeats 4000000 in
theorem bytes_in (r g n c p m : Nat) (bs : List UInt8) (b1 b2 b3 : Nat) (w : World) (h : RdAt w r g n c p bs) (hp : p + m ≤ n) (hm : 0 < m)
    (h1 : w.cell? ⟨b1, 0, none⟩ = some (.pointer (some ⟨r, 0, none⟩))) (h2 : w.cell? ⟨b2, 0, none⟩ = some (.int .i64 (m : Int))) (h3 : Blk w b3 46 #[.slice none 0 0]) (hb1 : b1 ≠ r) (hb2 : b2 ≠ r) (hgb3 : g ≠ b3) :
    Calls Tryz.prog 203 #[.pointer (some ⟨b2, 0, none⟩), .pointer (some ⟨b1, 0, none⟩), .pointer (some ⟨b3, 0, none⟩)] w fun e w' => e = .returned (.tuple #[]) ∧
      ∃ v, RdAt w' r g n c (p + m) bs ∧ Blk w' b3 46 #[v] ∧ w'.ownsRow w.heap.size 5 1 v m (((bs.drop p).take m).map B8) ∧ Touch (fun i => i = r ∨ i = b3) w w' := by
  have HR := Lib.hid h
  have hnc := h.nc
  have hsm := h.small
  have hrb3 : b3 ≠ r := h3.ne_ h.head (by decide)
  have H3 := Lib.hid h3
  have hm0 : (0 : Int) ≤ (m : Int) := Int.natCast_nonneg _
  have hmw : (m : Int) % 18446744073709551616 = (m : Int) := by omega
  have hln : bs.length = n := by have := h.row.1; simpa using this
  clear h h3
  go_enter Tryz.func203, Tryz.ntmps203
  go_wp2_with (first
    | (go_at_call 204; refine (must_any _ _).mono ?_; rintro e w' ⟨rfl, rfl⟩)
    | (go_at_call 205; refine (take_any r g n c p m _ HR.out.head hp hnc hsm hm).mono ?_; rintro e w1 ⟨rfl, kk, hw1⟩; have HT := Lib.hid (RdAt.took HR.out hw1); clear hw1)
    | (go_at_call 79; have HRD : Hid (Reads w1 (g + 1) 1 (some ⟨g, p, none⟩) m (((bs.drop p).take m).map B8)) := Lib.hid ⟨(by rw [List.length_map, List.length_take, List.length_drop]; omega), fun _ => ⟨_, rfl, Nat.lt_succ_self g, fun j u hu => (by
        rw [List.getElem?_map, List.getElem?_take] at hu
        split at hu
        · rw [List.getElem?_drop] at hu
          obtain ⟨x, hx, hc⟩ := HT.out.1.byte (j := p + j) (by omega)
          rw [hx] at hu
          rw [add_plain, hc]
          exact hu
        · cases hu)⟩⟩; refine (clone_any _ _ _ _ _ _ HRD.out (by omega)).mono ?_; rintro e w2 ⟨v, rfl, ho, hb⟩; obtain ⟨e2, c2, rfl, _⟩ := own_shape ho; have HO := Lib.hid ho; have HB := Lib.hid hb; have k3 : Blk w2 b3 46 #[.slice none 0 0] := Blk.below ((HT.out.2.block b3 H3.out.lt hrb3).trans H3.out) hb ((Nat.lt_of_lt_of_le H3.out.lt HT.out.2.size)); have y3 := k3.cell 0; have yf := k3.frozen 0; have K3 := Lib.hid k3; clear ho hb k3))
  go_end0
  have hz := HT.out.2.size
  have h3l := H3.out.lt
  refine ⟨rfl, _, ?_, K3.out.set_ 0 (.slice e2 m c2), ?_, ?_⟩
  · exact (HT.out.1.below HB.out).keep (Below.heap_setCell w2 ⟨b3, 0, none⟩ _ r (fun e => hrb3 e.symm)) (Below.heap_setCell w2 ⟨b3, 0, none⟩ _ g hgb3)
  · exact ownsRow_base_a (ownsRow_keep HO.out fun i hi => Below.heap_setCell w2 ⟨b3, 0, none⟩ _ i (by
      show i ≠ b3
      have := (HO.out.lt i hi).1
      omega)) hz
  · exact ((HT.out.2.mono (fun i _ hi => .inl hi)).trans (Touch.of_below HB.out)).set (G := fun i => i = r ∨ i = b3) (.inr rfl) _
set_option maxRecDepth 100000 in
set_option maxHeartbeats 4000000 in
theorem bytes_any (r g n c p m : Nat) (bs : List UInt8) (w : World) (h : RdAt w r g n c p bs) (hp : p + m ≤ n) (hm : 0 < m) :
    Calls Tryz.prog 172 #[.pointer (some ⟨r, 0, none⟩), .int .i64 (m : Int)] w fun e w' => ∃ v, e = .returned v ∧ RdAt w' r g n c (p + m) bs ∧ w'.ownsRow w.heap.size 5 1 v m (((bs.drop p).take m).map B8) ∧ Touch (· = r) w w' := by
  have hmf : ∀ (fn : Fn) (first cap : Array Value) (w : World), (Instr.makeFunc fn first cap).run Tryz.prog w = .ok (.func fn first cap) w := fun _ _ _ _ => rfl
  obtain ⟨W, hW⟩ : ∃ W, W = ((w.alloc (.cells #[.pointer (some ⟨r, 0, none⟩)] 262)).alloc (.cells #[.int .i64 (m : Int)] 3)).alloc (.cells #[.slice none 0 0] 46) := ⟨_, rfl⟩
  have hbW : Below w.heap.size w W := by rw [hW]; exact (((Below.refl _ w).alloc (Nat.le_refl _) _).alloc (by rw [alloc_size]; omega) _).alloc (by simp only [alloc_size]; omega) _
  have hB1 : Blk W w.heap.size 262 #[.pointer (some ⟨r, 0, none⟩)] := by rw [hW]; exact ((Blk.new w _ _).alloc _).alloc _
  have hB2 : Blk W (w.heap.size + 1) 3 #[.int .i64 (m : Int)] := by rw [hW]; exact (blk_last _ _ _ _ (by rw [alloc_size])).alloc _
  have hB3 : Blk W (w.heap.size + 1 + 1) 46 #[.slice none 0 0] := by rw [hW]; exact blk_last _ _ _ _ (by simp only [alloc_size])
  have hrl := h.head.lt
  have hgl := h.glt
  have HK : Hid (Calls Tryz.prog 202 #[.pointer (some ⟨r, 0, none⟩), .func (.func 203) #[] #[.pointer (some ⟨w.heap.size + 1, 0, none⟩), .pointer (some ⟨w.heap.size, 0, none⟩), .pointer (some ⟨w.heap.size + 1 + 1, 0, none⟩)]] W fun e w' => e = .returned (.tuple #[]) ∧ (∃ a d, RdAt w' r g n c (p + m) bs ∧ Blk w' (w.heap.size + 1 + 1) 46 #[.slice a m d] ∧ w'.ownsRow (w.heap.size + 1 + 1 + 1) 5 1 (.slice a m d) m (((bs.drop p).take m).map B8) ∧ Touch (· = r) w w')) := Lib.hid (by
    refine reading_bytes r _ _ _ _ _ W _ (h.below hbW).head fun W2 hb2 => ?_
    have h2 := hbW.size
    have h4 := hb2.size
    have hWs : W.heap.size = w.heap.size + 1 + 1 + 1 := by rw [hW]; simp only [alloc_size]
    refine (bytes_in r g n c p m bs w.heap.size (w.heap.size + 1) (w.heap.size + 1 + 1) W2 ((h.below hbW).below hb2) hp hm ((hb2.cell (p := ⟨w.heap.size, 0, none⟩) hB1.lt).trans (hB1.cell 0)) ((hb2.cell (p := ⟨w.heap.size + 1, 0, none⟩) hB2.lt).trans (hB2.cell 0)) (hB3.below hb2 hB3.lt) (by omega) (by omega) (by omega)).mono ?_
    rintro e w' ⟨he, v, g1, g2, g3, g4⟩
    obtain ⟨a, d, rfl, _⟩ := own_shape g3
    exact ⟨he, a, d, g1, g2, ownsRow_base_a g3 (by omega), touch_back (hbW.trans (hb2.mono h2)) g4 (by omega)⟩)
  have HW := Lib.hid hW
  clear hW hbW hB1 hB2 hB3
  go_enter Tryz.func172, Tryz.ntmps172
  go_wp2_with (go_at_call 202; rw [← HW.out]; refine HK.out.mono ?_; rintro e w1 ⟨rfl, a, d, h3, h4, h5, h6⟩; have H3 := Lib.hid h3; have H5 := Lib.hid h5; have H6 := Lib.hid h6; have y4 := h4.cell 0; have yf := h4.frozen 0; have H4 := Lib.hid h4; clear h3 h4 h5 h6)
  have h4l := H4.out.lt
  refine bodyPost_ret (v := .slice a m d) (by simp only [results, Tryz.results172]; go_simp) rfl ⟨_, rfl, ?_, ?_, ?_⟩
  · exact H3.out.keep (Below.heap_setCell w1 ⟨w.heap.size + 1 + 1, 0, none⟩ _ r (by show r ≠ w.heap.size + 1 + 1; omega)) (Below.heap_setCell w1 ⟨w.heap.size + 1 + 1, 0, none⟩ _ g (by show g ≠ w.heap.size + 1 + 1; omega))
  · exact ownsRow_base_a (ownsRow_keep H5.out fun i hi => Below.heap_setCell w1 ⟨w.heap.size + 1 + 1, 0, none⟩ _ i (by
      show i ≠ w.heap.size + 1 + 1
      have := (H5.out.lt i hi).1
      omega)) (by omega)
  · exact H6.out.trans ((Touch.refl _ w1).set (G := grow (· = r) w w1) (.inr ⟨by show w.heap.size ≤ w.heap.size + 1 + 1; omega, h4l⟩) _)
theorem open_any (A : Option Addr) (n c : Nat) (bs : List UInt8) (w : World) (B : Nat) (hx : Reads w B 1 A n (bs.map B8)) (hn : 0 < n) (hs : n ≤ 1000000) :
    Calls Tryz.prog 171 #[.slice A n c] w fun e w' => ∃ r g d, e = .returned (.pointer (some ⟨r, 0, none⟩)) ∧ RdAt w' r g n d 0 bs ∧ w.heap.size ≤ r ∧ w.heap.size ≤ g ∧ Below w.heap.size w w' := by
  have HC := Lib.hid (clone_any A n c bs w B hx (by omega))
  clear hx
  go_enter Tryz.func171, Tryz.ntmps171
  go_wp2_with (go_at_call 79; refine HC.out.mono ?_; rintro e w1 ⟨v, rfl, ho, hb⟩; obtain ⟨a, d, rfl, _⟩ := own_shape ho; have HO := Lib.hid ho; have HB := Lib.hid hb; clear ho hb)
  go_ret
  obtain ⟨g, rfl, hg⟩ : ∃ g, a = some ⟨g, 0, none⟩ ∧ w.heap.size ≤ g := by
    rcases HO.out.2 with ⟨_, h0⟩ | ⟨g', cap, cur, hv, hb, _⟩
    · omega
    · injection hv with e1 e2 e3
      exact ⟨g', e1, hb⟩
  exact ⟨w1.heap.size, g, d, rfl, ⟨Blk.new w1 _ _, ownsRow_base_a (HO.out.alloc _) (Nat.zero_le _), hs⟩, HB.out.size, hg, HB.out.alloc HB.out.size _⟩
end Go.Proofs.YtcbebefdbdppdaaGreat
