/- A reader of bytes: Open, Take, Bytes, End. -/
import Derived.Test.YtdiaihpilniikaaKk
import Derived.Test.YtdiaihpilniikaaDe
namespace Go.Proofs.Ytdiaihpilniikaa
open Go.RowKit Go.Maps

theorem touch_back {w W W2 : World} {r b2 : Nat} (hb : Below w.heap.size w W) (hr : Touch (fun i => i = r ∨ i = b2) W W2) (h2 : w.heap.size ≤ b2) : Touch (· = r) w W2 :=
  (Touch.of_below hb).trans (hr.mono fun i hi h => by
    rcases h with h | h
    · exact .inl h
    · exact .inr ⟨by omega, hi⟩)

set_option maxRecDepth 100000 in
set_option maxHeartbeats 4000000 in
theorem take8_any (r g n c p : Nat) (bs : List UInt8) (w : World) (h : RdAt w r g n c p bs) (hp : p + 1 ≤ n) :
    Calls Try.prog 35 #[.pointer (some ⟨r, 0, none⟩)] w fun e w' => e = .returned (.int .u8 (unle ((bs.drop p).take 1) : Nat)) ∧ RdAt w' r g n c (p + 1) bs ∧ Touch (· = r) w w' := by
  have hmf : ∀ (fn : Fn) (first cap : Array Value) (w : World), (Instr.makeFunc fn first cap).run Try.prog w = .ok (.func fn first cap) w := fun _ _ _ _ => rfl
  obtain ⟨W, hW⟩ : ∃ W, W = (w.alloc (.cells #[.pointer (some ⟨r, 0, none⟩)] 62)).alloc (.cells #[.int .u8 0] 5) := ⟨_, rfl⟩
  have hbW : Below w.heap.size w W := by rw [hW]; exact ((Below.refl _ w).alloc (Nat.le_refl _) _).alloc (by rw [alloc_size]; omega) _
  have hB1 : Blk W w.heap.size 62 #[.pointer (some ⟨r, 0, none⟩)] := by rw [hW]; exact (Blk.new w _ _).alloc _
  have hB2 : Blk W (w.heap.size + 1) 5 #[.int .u8 0] := by rw [hW]; exact blk_last _ _ _ _ (by rw [alloc_size])
  have hrl := h.head.lt
  have hgl := h.glt
  have HK : Hid (Calls Try.prog 50 #[.pointer (some ⟨r, 0, none⟩), .func (.func 54) #[] #[.pointer (some ⟨w.heap.size, 0, none⟩), .pointer (some ⟨w.heap.size + 1, 0, none⟩)]] W fun e w' => e = .returned (.tuple #[]) ∧ (RdAt w' r g n c (p + 1) bs ∧ w'.cell? ⟨w.heap.size + 1, 0, none⟩ = some (.int .u8 (unle ((bs.drop p).take 1) : Nat)) ∧ Touch (· = r) w w')) := Lib.hid (by
    refine reading_u8 r _ _ _ _ W _ (h.below hbW).head fun W2 hb2 => ?_
    have h2 := hbW.size
    refine (take8_in r g n c p bs w.heap.size (w.heap.size + 1) 0 W2 ((h.below hbW).below hb2) hp ((hb2.cell (p := ⟨w.heap.size, 0, none⟩) hB1.lt).trans (hB1.cell 0)) (hB2.below hb2 hB2.lt) (by omega)).mono ?_
    rintro e w' ⟨he, h3, h4, h5⟩
    exact ⟨he, h3, h4, touch_back (hbW.trans (hb2.mono h2)) h5 (by omega)⟩)
  have HW := Lib.hid hW
  obtain ⟨q, hq⟩ : ∃ q, q = unle ((bs.drop p).take 1) := ⟨_, rfl⟩
  rw [← hq] at HK ⊢
  clear hq hW hbW hB1 hB2 hgl
  go_enter Try.func35, Try.ntmps35
  go_wp2_with (go_at_call 50; rw [← HW.out]; refine HK.out.mono ?_; rintro e w1 ⟨rfl, h3, h4, h5⟩; have H3 := Lib.hid h3; have H5 := Lib.hid h5; clear h3 h5)
  go_ret
  exact ⟨rfl, H3.out, H5.out⟩

set_option maxRecDepth 100000 in
set_option maxHeartbeats 4000000 in
theorem take32_any (r g n c p : Nat) (bs : List UInt8) (w : World) (h : RdAt w r g n c p bs) (hp : p + 4 ≤ n) :
    Calls Try.prog 36 #[.pointer (some ⟨r, 0, none⟩)] w fun e w' => e = .returned (.int .u32 (unle ((bs.drop p).take 4) : Nat)) ∧ RdAt w' r g n c (p + 4) bs ∧ Touch (· = r) w w' := by
  have hmf : ∀ (fn : Fn) (first cap : Array Value) (w : World), (Instr.makeFunc fn first cap).run Try.prog w = .ok (.func fn first cap) w := fun _ _ _ _ => rfl
  obtain ⟨W, hW⟩ : ∃ W, W = (w.alloc (.cells #[.pointer (some ⟨r, 0, none⟩)] 62)).alloc (.cells #[.int .u32 0] 54) := ⟨_, rfl⟩
  have hbW : Below w.heap.size w W := by rw [hW]; exact ((Below.refl _ w).alloc (Nat.le_refl _) _).alloc (by rw [alloc_size]; omega) _
  have hB1 : Blk W w.heap.size 62 #[.pointer (some ⟨r, 0, none⟩)] := by rw [hW]; exact (Blk.new w _ _).alloc _
  have hB2 : Blk W (w.heap.size + 1) 54 #[.int .u32 0] := by rw [hW]; exact blk_last _ _ _ _ (by rw [alloc_size])
  have hrl := h.head.lt
  have hgl := h.glt
  have HK : Hid (Calls Try.prog 50 #[.pointer (some ⟨r, 0, none⟩), .func (.func 56) #[] #[.pointer (some ⟨w.heap.size, 0, none⟩), .pointer (some ⟨w.heap.size + 1, 0, none⟩)]] W fun e w' => e = .returned (.tuple #[]) ∧ (RdAt w' r g n c (p + 4) bs ∧ w'.cell? ⟨w.heap.size + 1, 0, none⟩ = some (.int .u32 (unle ((bs.drop p).take 4) : Nat)) ∧ Touch (· = r) w w')) := Lib.hid (by
    refine reading_u32 r _ _ _ _ W _ (h.below hbW).head fun W2 hb2 => ?_
    have h2 := hbW.size
    refine (take32_in r g n c p bs w.heap.size (w.heap.size + 1) 0 W2 ((h.below hbW).below hb2) hp ((hb2.cell (p := ⟨w.heap.size, 0, none⟩) hB1.lt).trans (hB1.cell 0)) (hB2.below hb2 hB2.lt) (by omega)).mono ?_
    rintro e w' ⟨he, h3, h4, h5⟩
    exact ⟨he, h3, h4, touch_back (hbW.trans (hb2.mono h2)) h5 (by omega)⟩)
  have HW := Lib.hid hW
  obtain ⟨q, hq⟩ : ∃ q, q = unle ((bs.drop p).take 4) := ⟨_, rfl⟩
  rw [← hq] at HK ⊢
  clear hq hW hbW hB1 hB2 hgl
  go_enter Try.func36, Try.ntmps36
  go_wp2_with (go_at_call 50; rw [← HW.out]; refine HK.out.mono ?_; rintro e w1 ⟨rfl, h3, h4, h5⟩; have H3 := Lib.hid h3; have H5 := Lib.hid h5; clear h3 h5)
  go_ret
  exact ⟨rfl, H3.out, H5.out⟩

set_option maxRecDepth 100000 in
set_option maxHeartbeats 4000000 in
theorem take64_any (r g n c p : Nat) (bs : List UInt8) (w : World) (h : RdAt w r g n c p bs) (hp : p + 8 ≤ n) :
    Calls Try.prog 37 #[.pointer (some ⟨r, 0, none⟩)] w fun e w' => e = .returned (.int .u64 (unle ((bs.drop p).take 8) : Nat)) ∧ RdAt w' r g n c (p + 8) bs ∧ Touch (· = r) w w' := by
  have hmf : ∀ (fn : Fn) (first cap : Array Value) (w : World), (Instr.makeFunc fn first cap).run Try.prog w = .ok (.func fn first cap) w := fun _ _ _ _ => rfl
  obtain ⟨W, hW⟩ : ∃ W, W = (w.alloc (.cells #[.pointer (some ⟨r, 0, none⟩)] 62)).alloc (.cells #[.int .u64 0] 60) := ⟨_, rfl⟩
  have hbW : Below w.heap.size w W := by rw [hW]; exact ((Below.refl _ w).alloc (Nat.le_refl _) _).alloc (by rw [alloc_size]; omega) _
  have hB1 : Blk W w.heap.size 62 #[.pointer (some ⟨r, 0, none⟩)] := by rw [hW]; exact (Blk.new w _ _).alloc _
  have hB2 : Blk W (w.heap.size + 1) 60 #[.int .u64 0] := by rw [hW]; exact blk_last _ _ _ _ (by rw [alloc_size])
  have hrl := h.head.lt
  have hgl := h.glt
  have HK : Hid (Calls Try.prog 50 #[.pointer (some ⟨r, 0, none⟩), .func (.func 57) #[] #[.pointer (some ⟨w.heap.size, 0, none⟩), .pointer (some ⟨w.heap.size + 1, 0, none⟩)]] W fun e w' => e = .returned (.tuple #[]) ∧ (RdAt w' r g n c (p + 8) bs ∧ w'.cell? ⟨w.heap.size + 1, 0, none⟩ = some (.int .u64 (unle ((bs.drop p).take 8) : Nat)) ∧ Touch (· = r) w w')) := Lib.hid (by
    refine reading_u64 r _ _ _ _ W _ (h.below hbW).head fun W2 hb2 => ?_
    have h2 := hbW.size
    refine (take64_in r g n c p bs w.heap.size (w.heap.size + 1) 0 W2 ((h.below hbW).below hb2) hp ((hb2.cell (p := ⟨w.heap.size, 0, none⟩) hB1.lt).trans (hB1.cell 0)) (hB2.below hb2 hB2.lt) (by omega)).mono ?_
    rintro e w' ⟨he, h3, h4, h5⟩
    exact ⟨he, h3, h4, touch_back (hbW.trans (hb2.mono h2)) h5 (by omega)⟩)
  have HW := Lib.hid hW
  obtain ⟨q, hq⟩ : ∃ q, q = unle ((bs.drop p).take 8) := ⟨_, rfl⟩
  rw [← hq] at HK ⊢
  clear hq hW hbW hB1 hB2 hgl
  go_enter Try.func37, Try.ntmps37
  go_wp2_with (go_at_call 50; rw [← HW.out]; refine HK.out.mono ?_; rintro e w1 ⟨rfl, h3, h4, h5⟩; have H3 := Lib.hid h3; have H5 := Lib.hid h5; clear h3 h5)
  go_ret
  exact ⟨rfl, H3.out, H5.out⟩

set_option maxRecDepth 100000 in
set_option maxHeartbeats 4000000 in
theorem bytes_in (r g n c p m : Nat) (bs : List UInt8) (b1 b2 b3 : Nat) (w : World) (h : RdAt w r g n c p bs) (hp : p + m ≤ n) (hm : 0 < m)
    (h1 : w.cell? ⟨b1, 0, none⟩ = some (.pointer (some ⟨r, 0, none⟩))) (h2 : w.cell? ⟨b2, 0, none⟩ = some (.int .i64 (m : Int))) (h3 : Blk w b3 33 #[.slice none 0 0]) (hb1 : b1 ≠ r) (hb2 : b2 ≠ r) (hgb3 : g ≠ b3) :
    Calls Try.prog 51 #[.pointer (some ⟨b2, 0, none⟩), .pointer (some ⟨b1, 0, none⟩), .pointer (some ⟨b3, 0, none⟩)] w fun e w' => e = .returned (.tuple #[]) ∧
      ∃ v, RdAt w' r g n c (p + m) bs ∧ Blk w' b3 33 #[v] ∧ w'.ownsRow w.heap.size 5 1 v m (((bs.drop p).take m).map B8) ∧ Touch (fun i => i = r ∨ i = b3) w w' := by
  have HR := Lib.hid h
  have hnc := h.nc
  have hsm := h.small
  have hrb3 : b3 ≠ r := h3.ne_ h.head (by decide)
  have H3 := Lib.hid h3
  have hm0 : (0 : Int) ≤ (m : Int) := Int.natCast_nonneg _
  have hmw : (m : Int) % 18446744073709551616 = (m : Int) := by omega
  have hln : bs.length = n := by have := h.row.1; simpa using this
  clear h h3
  go_enter Try.func51, Try.ntmps51
  go_wp2_with (first
    | (go_at_call 52; refine (must_any _ _).mono ?_; rintro e w' ⟨rfl, rfl⟩)
    | (go_at_call 53; refine (take_any r g n c p m _ HR.out.head hp hnc hsm hm).mono ?_; rintro e w1 ⟨rfl, kk, hw1⟩; have HT := Lib.hid (RdAt.took HR.out hw1); clear hw1)
    | (go_at_call 46; have HRD : Hid (Reads w1 (g + 1) 1 (some ⟨g, p, none⟩) m (((bs.drop p).take m).map B8)) := Lib.hid ⟨(by rw [List.length_map, List.length_take, List.length_drop]; omega), fun _ => ⟨_, rfl, Nat.lt_succ_self g, fun j u hu => (by
        rw [List.getElem?_map, List.getElem?_take] at hu
        split at hu
        · rw [List.getElem?_drop] at hu
          obtain ⟨x, hx, hc⟩ := HT.out.1.byte (j := p + j) (by omega)
          rw [hx] at hu
          rw [add_plain, hc]
          exact hu
        · cases hu)⟩⟩; refine (clone_any _ _ _ _ _ _ HRD.out (by omega)).mono ?_; rintro e w2 ⟨v, rfl, ho, hb⟩; obtain ⟨e2, c2, rfl, _⟩ := own_shape ho; have HO := Lib.hid ho; have HB := Lib.hid hb; have k3 : Blk w2 b3 33 #[.slice none 0 0] := Blk.below ((HT.out.2.block b3 H3.out.lt hrb3).trans H3.out) hb ((Nat.lt_of_lt_of_le H3.out.lt HT.out.2.size)); have y3 := k3.cell 0; have yf := k3.frozen 0; have K3 := Lib.hid k3; clear ho hb k3))
  go_end0
  have hz := HT.out.2.size
  have h3l := H3.out.lt
  refine ⟨rfl, _, ?_, K3.out.set_ 0 (.slice e2 m c2), ?_, ?_⟩
  · exact (HT.out.1.below HB.out).keep (Below.heap_setCell w2 ⟨b3, 0, none⟩ _ r (fun e => hrb3 e.symm)) (Below.heap_setCell w2 ⟨b3, 0, none⟩ _ g hgb3)
  · exact ownsRow_base_a (ownsRow_keep HO.out fun i hi => Below.heap_setCell w2 ⟨b3, 0, none⟩ _ i (by
      show i ≠ b3
      have := (HO.out.lt i hi).1
      omega)) hz
  · exact ((HT.out.2.mono (fun i _ hi => .inl hi)).trans (Touch.of_below HB.out)).set (G := fun i => i = r ∨ i = b3) (.inr rfl) _

set_option maxRecDepth 100000 in
set_option maxHeartbeats 4000000 in
theorem bytes_any (r g n c p m : Nat) (bs : List UInt8) (w : World) (h : RdAt w r g n c p bs) (hp : p + m ≤ n) (hm : 0 < m) :
    Calls Try.prog 34 #[.pointer (some ⟨r, 0, none⟩), .int .i64 (m : Int)] w fun e w' => ∃ v, e = .returned v ∧ RdAt w' r g n c (p + m) bs ∧ w'.ownsRow w.heap.size 5 1 v m (((bs.drop p).take m).map B8) ∧ Touch (· = r) w w' := by
  have hmf : ∀ (fn : Fn) (first cap : Array Value) (w : World), (Instr.makeFunc fn first cap).run Try.prog w = .ok (.func fn first cap) w := fun _ _ _ _ => rfl
  obtain ⟨W, hW⟩ : ∃ W, W = ((w.alloc (.cells #[.pointer (some ⟨r, 0, none⟩)] 62)).alloc (.cells #[.int .i64 (m : Int)] 3)).alloc (.cells #[.slice none 0 0] 33) := ⟨_, rfl⟩
  have hbW : Below w.heap.size w W := by rw [hW]; exact (((Below.refl _ w).alloc (Nat.le_refl _) _).alloc (by rw [alloc_size]; omega) _).alloc (by simp only [alloc_size]; omega) _
  have hB1 : Blk W w.heap.size 62 #[.pointer (some ⟨r, 0, none⟩)] := by rw [hW]; exact ((Blk.new w _ _).alloc _).alloc _
  have hB2 : Blk W (w.heap.size + 1) 3 #[.int .i64 (m : Int)] := by rw [hW]; exact (blk_last _ _ _ _ (by rw [alloc_size])).alloc _
  have hB3 : Blk W (w.heap.size + 1 + 1) 33 #[.slice none 0 0] := by rw [hW]; exact blk_last _ _ _ _ (by simp only [alloc_size])
  have hrl := h.head.lt
  have hgl := h.glt
  have HK : Hid (Calls Try.prog 50 #[.pointer (some ⟨r, 0, none⟩), .func (.func 51) #[] #[.pointer (some ⟨w.heap.size + 1, 0, none⟩), .pointer (some ⟨w.heap.size, 0, none⟩), .pointer (some ⟨w.heap.size + 1 + 1, 0, none⟩)]] W fun e w' => e = .returned (.tuple #[]) ∧ (∃ a d, RdAt w' r g n c (p + m) bs ∧ Blk w' (w.heap.size + 1 + 1) 33 #[.slice a m d] ∧ w'.ownsRow (w.heap.size + 1 + 1 + 1) 5 1 (.slice a m d) m (((bs.drop p).take m).map B8) ∧ Touch (· = r) w w')) := Lib.hid (by
    refine reading_bytes r _ _ _ _ _ W _ (h.below hbW).head fun W2 hb2 => ?_
    have h2 := hbW.size
    have h4 := hb2.size
    have hWs : W.heap.size = w.heap.size + 1 + 1 + 1 := by rw [hW]; simp only [alloc_size]
    refine (bytes_in r g n c p m bs w.heap.size (w.heap.size + 1) (w.heap.size + 1 + 1) W2 ((h.below hbW).below hb2) hp hm ((hb2.cell (p := ⟨w.heap.size, 0, none⟩) hB1.lt).trans (hB1.cell 0)) ((hb2.cell (p := ⟨w.heap.size + 1, 0, none⟩) hB2.lt).trans (hB2.cell 0)) (hB3.below hb2 hB3.lt) (by omega) (by omega) (by omega)).mono ?_
    rintro e w' ⟨he, v, g1, g2, g3, g4⟩
    obtain ⟨a, d, rfl, _⟩ := own_shape g3
    exact ⟨he, a, d, g1, g2, ownsRow_base_a g3 (by omega), touch_back (hbW.trans (hb2.mono h2)) g4 (by omega)⟩)
  have HW := Lib.hid hW
  clear hW hbW hB1 hB2 hB3
  go_enter Try.func34, Try.ntmps34
  go_wp2_with (go_at_call 50; rw [← HW.out]; refine HK.out.mono ?_; rintro e w1 ⟨rfl, a, d, h3, h4, h5, h6⟩; have H3 := Lib.hid h3; have H5 := Lib.hid h5; have H6 := Lib.hid h6; have y4 := h4.cell 0; have yf := h4.frozen 0; have H4 := Lib.hid h4; clear h3 h4 h5 h6)
  have h4l := H4.out.lt
  refine bodyPost_ret (v := .slice a m d) (by simp only [results, Try.results34]; go_simp) rfl ⟨_, rfl, ?_, ?_, ?_⟩
  · exact H3.out.keep (Below.heap_setCell w1 ⟨w.heap.size + 1 + 1, 0, none⟩ _ r (by show r ≠ w.heap.size + 1 + 1; omega)) (Below.heap_setCell w1 ⟨w.heap.size + 1 + 1, 0, none⟩ _ g (by show g ≠ w.heap.size + 1 + 1; omega))
  · exact ownsRow_base_a (ownsRow_keep H5.out fun i hi => Below.heap_setCell w1 ⟨w.heap.size + 1 + 1, 0, none⟩ _ i (by
      show i ≠ w.heap.size + 1 + 1
      have := (H5.out.lt i hi).1
      omega)) (by omega)
  · exact H6.out.trans ((Touch.refl _ w1).set (G := grow (· = r) w w1) (.inr ⟨by show w.heap.size ≤ w.heap.size + 1 + 1; omega, h4l⟩) _)

theorem open_any (A : Option Addr) (n c : Nat) (bs : List UInt8) (w : World) (B : Nat) (hx : Reads w B 1 A n (bs.map B8)) (hn : 0 < n) (hs : n ≤ 1000000) :
    Calls Try.prog 33 #[.slice A n c] w fun e w' => ∃ r g d, e = .returned (.pointer (some ⟨r, 0, none⟩)) ∧ RdAt w' r g n d 0 bs ∧ w.heap.size ≤ r ∧ w.heap.size ≤ g ∧ Below w.heap.size w w' := by
  have HC := Lib.hid (clone_any A n c bs w B hx (by omega))
  clear hx
  go_enter Try.func33, Try.ntmps33
  go_wp2_with (go_at_call 46; refine HC.out.mono ?_; rintro e w1 ⟨v, rfl, ho, hb⟩; obtain ⟨a, d, rfl, _⟩ := own_shape ho; have HO := Lib.hid ho; have HB := Lib.hid hb; clear ho hb)
  go_ret
  obtain ⟨g, rfl, hg⟩ : ∃ g, a = some ⟨g, 0, none⟩ ∧ w.heap.size ≤ g := by
    rcases HO.out.2 with ⟨_, h0⟩ | ⟨g', cap, cur, hv, hb, _⟩
    · omega
    · injection hv with e1 e2 e3
      exact ⟨g', e1, hb⟩
  exact ⟨w1.heap.size, g, d, rfl, ⟨Blk.new w1 _ _, ownsRow_base_a (HO.out.alloc _) (Nat.zero_le _), hs⟩, HB.out.size, hg, HB.out.alloc HB.out.size _⟩

theorem fault_any (r g n c p : Nat) (bs : List UInt8) (w : World) (h : RdAt w r g n c p bs) :
    Calls Try.prog 58 #[.pointer (some ⟨r, 0, none⟩)] w fun e w' => e = .returned (.int .i64 0) ∧ w = w' := by
  have f2 : w.cell? ⟨r, 2, none⟩ = some (.int .i64 0) := h.head.cell 2
  clear h
  go_enter Try.func58, Try.ntmps58
  go_wp2
  go_ret
  exact ⟨rfl, rfl⟩
theorem left_any (r g n c p : Nat) (bs : List UInt8) (w : World) (h : RdAt w r g n c p bs) (hp : p ≤ n) :
    Calls Try.prog 59 #[.pointer (some ⟨r, 0, none⟩)] w fun e w' => e = .returned (.int .i64 ((n - p : Nat) : Int)) ∧ ∃ k, w' = w.drewN k := by
  have f0 : w.cell? ⟨r, 0, none⟩ = some (.slice (some ⟨g, 0, none⟩) n c) := h.head.cell 0
  have f1 : w.cell? ⟨r, 1, none⟩ = some (.int .i64 (p : Int)) := h.head.cell 1
  have hsm := h.small
  have hw1 : wrap64 ((n : Int) - p) = (n : Int) - p := IntWalk.wrap64_in _ (by omega)
  obtain ⟨q, hq⟩ : ∃ q, q = n - p := ⟨_, rfl⟩
  have HQ : Hid ((n : Int) - p = (q : Int)) := Lib.hid (by omega)
  rw [← hq]
  clear h hq
  go_enter Try.func59, Try.ntmps59
  go_wp2_with fail
  go_quiet (fail)
  go_wp2
  go_ret
  refine ⟨?_, _, rfl⟩
  show Ending.returned (.int .i64 ((n : Int) - p)) = _
  rw [HQ.out]
theorem end_any (r g n c p : Nat) (bs : List UInt8) (w : World) (h : RdAt w r g n c p bs) (hp : p = n) :
    Calls Try.prog 38 #[.pointer (some ⟨r, 0, none⟩)] w fun e w' => e = .returned (.int .i64 0) ∧ ∃ k, w' = w.drewN k := by
  have HF := Lib.hid (fault_any r g n c p bs w h)
  have HL := Lib.hid (left_any r g n c p bs w h (by omega))
  rw [show n - p = 0 by omega] at HL
  clear h hp
  go_enter Try.func38, Try.ntmps38
  go_wp2_with (first
    | (go_at_call 58; refine HF.out.mono ?_; rintro e w' ⟨rfl, rfl⟩)
    | (go_at_call 59; refine HL.out.mono ?_; rintro e w' ⟨rfl, k, rfl⟩))
  go_ret
  exact ⟨rfl, _, rfl⟩
end Go.Proofs.Ytdiaihpilniikaa
