/- LabelOwn: the walk. -/
import Derived.Test.YtdiaihpilniikaaKzb
import Derived.Deep.RegionLaw
namespace Go.Proofs.Ytdiaihpilniikaa
open Go.RowKit Go.Maps

theorem own_prefix {w : World} {base n m g c : Nat} {e : TypeId} {xs : List Value} (h : w.ownsRow base e 1 (.slice (some ⟨g, 0, none⟩) n c) n xs) (hm : m ≤ n) : Reads w w.heap.size 1 (some ⟨g, 0, none⟩) m (xs.take m) := by
  have hl := h.1
  refine ⟨by rw [List.length_take]; omega, fun _ => ⟨_, rfl, (h.lt g rfl).2, fun j u hu => ?_⟩⟩
  rw [add_plain, Nat.zero_add]
  have hj : j < m := by
    rcases Nat.lt_or_ge j m with h1 | h1
    · exact h1
    · rw [List.getElem?_eq_none (by rw [List.length_take]; omega)] at hu; cases hu
  rw [List.getElem?_take_of_lt hj] at hu
  exact (h.cellAt j (by omega)).trans hu
theorem calls_at {P : Program} {F : Nat} {args : Array Value} {w : World} {Q : Ending → World → Prop} (h : ∀ W, W = w → Calls P F args W Q) : Calls P F args w Q := h w rfl
def tail8 : List UInt8 := [1, 2, 3, 4, 5, 6, 7, 8]
theorem tail_reads (w : World) : Reads (w.alloc (.cells #[.int .u8 1, .int .u8 2, .int .u8 3, .int .u8 4, .int .u8 5, .int .u8 6, .int .u8 7, .int .u8 8] 5)) (w.heap.size + 1) 1 (some ⟨w.heap.size, 0, none⟩) 8 (tail8.map B8) :=
  reads_blk (t := 5) (by rw [show (tail8.map B8).toArray = #[.int .u8 1, .int .u8 2, .int .u8 3, .int .u8 4, .int .u8 5, .int .u8 6, .int .u8 7, .int .u8 8] from rfl]; exact blk_last _ _ _ _ rfl) (by omega) rfl
theorem step_append_grd {P : Program} (w : World) {ops : Array Oper} {o : Oper} {a : Act} {K : Act → World → Prop} {Q : Exit → Act → World → Prop} {E : Prop} (hgd : Region.wanted o (yielded ops a.tmps) = true) (s x : Operand) (t : TypeId)
    (ho : o.op = .call { callee := .builtin .append, args := #[s, x], argTypes := #[t, t] })
    (base : Nat) (e : TypeId) (i : TypeInfo) (z : Value) (size bytes : Nat) (ht : P.underlying t = some (.slice e)) (hi : P.info? e = some i) (hz : i.zero = some z)
    (hsize : i.size = size) (hby : i.bytes = bytes) (hzs : z.cells.size = size) (hsz : 0 < size)
    (v : Value) (n : Nat) (xs : List Value) (hs : a.eval s = v) (hown : w.ownsRow base e size v n xs)
    (B : Nat) (A : Option Addr) (m c : Nat) (news : List Value) (hx : a.eval x = .slice A m c) (hr : Reads w B size A m news) (h1 : ∀ u ∈ news, u.oneCell' = true)
    (h63 : n + m ≤ maxLen) (hbytes : (n + m) * bytes ≤ 140737488355328) (hbase : base ≤ w.heap.size)
    (h : ∀ v' w', w'.ownsRow base e size v' (n + m) (xs ++ news) → w.grownBy w' v.ownBlock → (v'.ownBlock = v.ownBlock ∨ v'.ownBlock = some w.heap.size) → K (a.put o.dst v') w') :
    if Region.wanted o (yielded ops a.tmps) = true then Oper.wp P o a w K Q else E := by
  rw [if_pos hgd]
  exact wp_append_any w s x t ho base e i z size bytes ht hi hz hsize hby hzs hsz v n xs hs hown B A m c news hx hr h1 h63 hbytes hbase h
theorem tail_below {X V : World} (h : Below (X.alloc (.cells #[.int .u8 1, .int .u8 2, .int .u8 3, .int .u8 4, .int .u8 5, .int .u8 6, .int .u8 7, .int .u8 8] 5)).drew.heap.size (X.alloc (.cells #[.int .u8 1, .int .u8 2, .int .u8 3, .int .u8 4, .int .u8 5, .int .u8 6, .int .u8 7, .int .u8 8] 5)).drew V) : Reads V (X.heap.size + 1) 1 (some ⟨X.heap.size, 0, none⟩) 8 (tail8.map B8) :=
  (tail_reads X).keep fun p hp => h.cell (by show p.block < (X.alloc _).heap.size; rw [alloc_size]; exact hp)
theorem tail_one : ∀ u ∈ tail8.map B8, u.oneCell' = true := fun u hu => by obtain ⟨b, _, rfl⟩ := List.mem_map.1 hu; rfl
/-- Four rows that lie one behind the other: their colors. -/
def col4 (x1 x2 x3 : Nat) (b : Nat) : Nat := if b < x1 then 0 else if b < x2 then 1 else if b < x3 then 2 else 3

set_option maxRecDepth 100000 in
set_option maxHeartbeats 8000000 in
theorem own_unfit (l k : Lab) (hl : l.Wf) (hk : k.Wf) (hm : ¬(l.may = 0 ∧ k.may = 0)) (w : World) : Calls Try.prog 8 #[labV l, labV k] w fun e w' => e = .returned (.bool true) ∧ Below w.heap.size w w' := by
  have HF1 := Lib.hid (fun W => fit_any l hl W)
  have HF2 := Lib.hid (fun W => fit_any k hk W)
  obtain ⟨a0, a1, a2, a3, a4, a5, a6, a7, n0, n1, n2, n3, n4, hv⟩ := agg_hid l hl.st
  obtain ⟨b0, b1, b2, b3, b4, b5, b6, b7, m0, m1, m2, m3, m4, hu⟩ := agg_hid k hk.st
  rw [hv] at HF1 ⊢
  rw [hu] at HF2 ⊢
  by_cases h1 : l.may = 0
  · have h2 : k.may ≠ 0 := fun h => hm ⟨h1, h⟩
    rw [decide_eq_true h1] at HF1
    rw [decide_eq_false h2] at HF2
    clear h1 h2 hm hv hu hl hk
    go_enter Try.func8, Try.ntmps8
    go_wp2_with fail
    refine (known_any _).mono ?_
    rintro e w1 ⟨rfl, hb1⟩
    have K1 := Lib.hid (((Blk.new w 26 #[.int .u8 (a0.toNat : Int), .int .u8 (a1.toNat : Int), .int .u8 (a2.toNat : Int), .int .u8 (a3.toNat : Int), .int .u8 (a4.toNat : Int), .int .u8 (a5.toNat : Int), .int .u8 (a6.toNat : Int), .int .u8 (a7.toNat : Int), .int .i64 n0, .int .i64 n1, .int .i64 n2, .int .i64 n3, .int .i64 n4]).alloc _).below hb1 (by rw [alloc_size, alloc_size]; omega))
    have K2 := Lib.hid ((blk_last (w.alloc (.cells #[.int .u8 (a0.toNat : Int), .int .u8 (a1.toNat : Int), .int .u8 (a2.toNat : Int), .int .u8 (a3.toNat : Int), .int .u8 (a4.toNat : Int), .int .u8 (a5.toNat : Int), .int .u8 (a6.toNat : Int), .int .u8 (a7.toNat : Int), .int .i64 n0, .int .i64 n1, .int .i64 n2, .int .i64 n3, .int .i64 n4] 26)) (w.heap.size + 1) 26 #[.int .u8 (b0.toNat : Int), .int .u8 (b1.toNat : Int), .int .u8 (b2.toNat : Int), .int .u8 (b3.toNat : Int), .int .u8 (b4.toNat : Int), .int .u8 (b5.toNat : Int), .int .u8 (b6.toNat : Int), .int .u8 (b7.toNat : Int), .int .i64 m0, .int .i64 m1, .int .i64 m2, .int .i64 m3, .int .i64 m4] (by rw [alloc_size])).below hb1 (by rw [alloc_size, alloc_size]; omega))
    have HB1 : Hid (Below w.heap.size w w1) := Lib.hid ((((Below.refl _ w).alloc (Nat.le_refl _) _).alloc (by rw [alloc_size]; omega) _).trans (hb1.mono (by rw [alloc_size, alloc_size]; omega)))
    clear hb1
    have y0 : w1.cell? ⟨w.heap.size, 0, none⟩ = some (.int .u8 (a0.toNat : Int)) := K1.out.cell 0
    have y1 : w1.cell? ⟨w.heap.size, 1, none⟩ = some (.int .u8 (a1.toNat : Int)) := K1.out.cell 1
    have y2 : w1.cell? ⟨w.heap.size, 2, none⟩ = some (.int .u8 (a2.toNat : Int)) := K1.out.cell 2
    have y3 : w1.cell? ⟨w.heap.size, 3, none⟩ = some (.int .u8 (a3.toNat : Int)) := K1.out.cell 3
    have y4 : w1.cell? ⟨w.heap.size, 4, none⟩ = some (.int .u8 (a4.toNat : Int)) := K1.out.cell 4
    have y5 : w1.cell? ⟨w.heap.size, 5, none⟩ = some (.int .u8 (a5.toNat : Int)) := K1.out.cell 5
    have y6 : w1.cell? ⟨w.heap.size, 6, none⟩ = some (.int .u8 (a6.toNat : Int)) := K1.out.cell 6
    have y7 : w1.cell? ⟨w.heap.size, 7, none⟩ = some (.int .u8 (a7.toNat : Int)) := K1.out.cell 7
    have y8 : w1.cell? ⟨w.heap.size, 8, none⟩ = some (.int .i64 n0) := K1.out.cell 8
    have y9 : w1.cell? ⟨w.heap.size, 9, none⟩ = some (.int .i64 n1) := K1.out.cell 9
    have y10 : w1.cell? ⟨w.heap.size, 10, none⟩ = some (.int .i64 n2) := K1.out.cell 10
    have y11 : w1.cell? ⟨w.heap.size, 11, none⟩ = some (.int .i64 n3) := K1.out.cell 11
    have y12 : w1.cell? ⟨w.heap.size, 12, none⟩ = some (.int .i64 n4) := K1.out.cell 12
    go_wp2_with fail
    refine (HF1.out _).mono ?_
    rintro e w2 ⟨rfl, hb2⟩
    have K3 := Lib.hid (K2.out.below hb2 K2.out.lt)
    have HB2 : Hid (Below w.heap.size w w2) := Lib.hid (HB1.out.trans (hb2.mono HB1.out.size))
    clear hb2
    have z0 : w2.cell? ⟨w.heap.size + 1, 0, none⟩ = some (.int .u8 (b0.toNat : Int)) := K3.out.cell 0
    have z1 : w2.cell? ⟨w.heap.size + 1, 1, none⟩ = some (.int .u8 (b1.toNat : Int)) := K3.out.cell 1
    have z2 : w2.cell? ⟨w.heap.size + 1, 2, none⟩ = some (.int .u8 (b2.toNat : Int)) := K3.out.cell 2
    have z3 : w2.cell? ⟨w.heap.size + 1, 3, none⟩ = some (.int .u8 (b3.toNat : Int)) := K3.out.cell 3
    have z4 : w2.cell? ⟨w.heap.size + 1, 4, none⟩ = some (.int .u8 (b4.toNat : Int)) := K3.out.cell 4
    have z5 : w2.cell? ⟨w.heap.size + 1, 5, none⟩ = some (.int .u8 (b5.toNat : Int)) := K3.out.cell 5
    have z6 : w2.cell? ⟨w.heap.size + 1, 6, none⟩ = some (.int .u8 (b6.toNat : Int)) := K3.out.cell 6
    have z7 : w2.cell? ⟨w.heap.size + 1, 7, none⟩ = some (.int .u8 (b7.toNat : Int)) := K3.out.cell 7
    have z8 : w2.cell? ⟨w.heap.size + 1, 8, none⟩ = some (.int .i64 m0) := K3.out.cell 8
    have z9 : w2.cell? ⟨w.heap.size + 1, 9, none⟩ = some (.int .i64 m1) := K3.out.cell 9
    have z10 : w2.cell? ⟨w.heap.size + 1, 10, none⟩ = some (.int .i64 m2) := K3.out.cell 10
    have z11 : w2.cell? ⟨w.heap.size + 1, 11, none⟩ = some (.int .i64 m3) := K3.out.cell 11
    have z12 : w2.cell? ⟨w.heap.size + 1, 12, none⟩ = some (.int .i64 m4) := K3.out.cell 12
    go_wp2_with fail
    refine (HF2.out _).mono ?_
    rintro e w3 ⟨rfl, hb3⟩
    have HB3 : Hid (Below w.heap.size w w3) := Lib.hid (HB2.out.trans (hb3.mono HB2.out.size))
    clear hb3
    go_wp2
    go_ret
    exact ⟨rfl, HB3.out⟩
  · rw [decide_eq_false h1] at HF1
    clear h1 hm hv hu hl hk
    go_enter Try.func8, Try.ntmps8
    go_wp2_with fail
    refine (known_any _).mono ?_
    rintro e w1 ⟨rfl, hb1⟩
    have K1 := Lib.hid (((Blk.new w 26 #[.int .u8 (a0.toNat : Int), .int .u8 (a1.toNat : Int), .int .u8 (a2.toNat : Int), .int .u8 (a3.toNat : Int), .int .u8 (a4.toNat : Int), .int .u8 (a5.toNat : Int), .int .u8 (a6.toNat : Int), .int .u8 (a7.toNat : Int), .int .i64 n0, .int .i64 n1, .int .i64 n2, .int .i64 n3, .int .i64 n4]).alloc _).below hb1 (by rw [alloc_size, alloc_size]; omega))
    have HB1 : Hid (Below w.heap.size w w1) := Lib.hid ((((Below.refl _ w).alloc (Nat.le_refl _) _).alloc (by rw [alloc_size]; omega) _).trans (hb1.mono (by rw [alloc_size, alloc_size]; omega)))
    clear hb1
    have y0 : w1.cell? ⟨w.heap.size, 0, none⟩ = some (.int .u8 (a0.toNat : Int)) := K1.out.cell 0
    have y1 : w1.cell? ⟨w.heap.size, 1, none⟩ = some (.int .u8 (a1.toNat : Int)) := K1.out.cell 1
    have y2 : w1.cell? ⟨w.heap.size, 2, none⟩ = some (.int .u8 (a2.toNat : Int)) := K1.out.cell 2
    have y3 : w1.cell? ⟨w.heap.size, 3, none⟩ = some (.int .u8 (a3.toNat : Int)) := K1.out.cell 3
    have y4 : w1.cell? ⟨w.heap.size, 4, none⟩ = some (.int .u8 (a4.toNat : Int)) := K1.out.cell 4
    have y5 : w1.cell? ⟨w.heap.size, 5, none⟩ = some (.int .u8 (a5.toNat : Int)) := K1.out.cell 5
    have y6 : w1.cell? ⟨w.heap.size, 6, none⟩ = some (.int .u8 (a6.toNat : Int)) := K1.out.cell 6
    have y7 : w1.cell? ⟨w.heap.size, 7, none⟩ = some (.int .u8 (a7.toNat : Int)) := K1.out.cell 7
    have y8 : w1.cell? ⟨w.heap.size, 8, none⟩ = some (.int .i64 n0) := K1.out.cell 8
    have y9 : w1.cell? ⟨w.heap.size, 9, none⟩ = some (.int .i64 n1) := K1.out.cell 9
    have y10 : w1.cell? ⟨w.heap.size, 10, none⟩ = some (.int .i64 n2) := K1.out.cell 10
    have y11 : w1.cell? ⟨w.heap.size, 11, none⟩ = some (.int .i64 n3) := K1.out.cell 11
    have y12 : w1.cell? ⟨w.heap.size, 12, none⟩ = some (.int .i64 n4) := K1.out.cell 12
    go_wp2_with fail
    refine (HF1.out _).mono ?_
    rintro e w2 ⟨rfl, hb2⟩
    have HB2 : Hid (Below w.heap.size w w2) := Lib.hid (HB1.out.trans (hb2.mono HB1.out.size))
    clear hb2
    go_wp2
    go_ret
    exact ⟨rfl, HB2.out⟩

set_option maxRecDepth 100000 in
set_option maxHeartbeats 40000000 in
theorem own_fit (l k : Lab) (hl : l.Wf) (hk : k.Wf) (hml : l.may = 0) (hmk : k.may = 0) (w : World) : Calls Try.prog 8 #[labV l, labV k] w fun e w' => e = .returned (.bool true) ∧ Below w.heap.size w w' := by
  have HF1 : Hid (∀ W, Calls Try.prog 19 #[labV l] W fun e w' => e = .returned (.bool true) ∧ Below W.heap.size W w') := Lib.hid fun W => by have h := fit_any l hl W; rw [decide_eq_true hml] at h; exact h
  have HF2 : Hid (∀ W, Calls Try.prog 19 #[labV k] W fun e w' => e = .returned (.bool true) ∧ Below W.heap.size W w') := Lib.hid fun W => by have h := fit_any k hk W; rw [decide_eq_true hmk] at h; exact h
  have HES1 := Lib.hid (lab_eql l hl.st)
  have HNE1 := Lib.hid (lab_neq l hl.st)
  have HES2 := Lib.hid (lab_eql k hk.st)
  have HEN1 : Hid (∀ W, Calls Try.prog 15 #[labV l] W fun e w' => ∃ g c, e = .returned (.tuple #[.slice (some ⟨g, 0, none⟩) 31 c, .int .i64 0]) ∧ w'.ownsRow W.heap.size 5 1 (.slice (some ⟨g, 0, none⟩) 31 c) 31 (l.bytes.map B8) ∧ Below W.heap.size W w') := Lib.hid fun W => by
    refine (encode_ok l hl hml W).mono ?_
    rintro e w' ⟨u, he, ho, hb⟩
    obtain ⟨A, c, rfl, hle⟩ := own_shape ho
    obtain ⟨g, rfl⟩ := own_head ho (by decide)
    exact ⟨g, c, he, ho, hb⟩
  have HPA1 : Hid (∀ (V : World) (g c : Nat), Reads V V.heap.size 1 (some ⟨g, 0, none⟩) 31 (l.bytes.map B8) → 31 ≤ c → Calls Try.prog 17 #[.slice (some ⟨g, 0, none⟩) 31 c] V fun e w' => e = .returned (.tuple #[labV l, .int .i64 0]) ∧ Below V.heap.size V w') := Lib.hid fun V g c hx hc => by
    have h := parse_any (some ⟨g, 0, none⟩) 31 c l.bytes V _ hx (Nat.le_refl _) hc (fun _ => ⟨g, rfl⟩)
    rw [Lab.parse_bytes l hl.st hml] at h
    exact h
  have HLN1 : Hid (l.bytes.length = 31) := Lib.hid (l.bytes_length hl.st)
  have HEN2 : Hid (∀ W, Calls Try.prog 15 #[labV k] W fun e w' => ∃ g c, e = .returned (.tuple #[.slice (some ⟨g, 0, none⟩) 31 c, .int .i64 0]) ∧ w'.ownsRow W.heap.size 5 1 (.slice (some ⟨g, 0, none⟩) 31 c) 31 (k.bytes.map B8) ∧ Below W.heap.size W w') := Lib.hid fun W => by
    refine (encode_ok k hk hmk W).mono ?_
    rintro e w' ⟨u, he, ho, hb⟩
    obtain ⟨A, c, rfl, hle⟩ := own_shape ho
    obtain ⟨g, rfl⟩ := own_head ho (by decide)
    exact ⟨g, c, he, ho, hb⟩
  have HPA2 : Hid (∀ (V : World) (g c : Nat), Reads V V.heap.size 1 (some ⟨g, 0, none⟩) 31 (k.bytes.map B8) → 31 ≤ c → Calls Try.prog 17 #[.slice (some ⟨g, 0, none⟩) 31 c] V fun e w' => e = .returned (.tuple #[labV k, .int .i64 0]) ∧ Below V.heap.size V w') := Lib.hid fun V g c hx hc => by
    have h := parse_any (some ⟨g, 0, none⟩) 31 c k.bytes V _ hx (Nat.le_refl _) hc (fun _ => ⟨g, rfl⟩)
    rw [Lab.parse_bytes k hk.st hmk] at h
    exact h
  have HLN2 : Hid (k.bytes.length = 31) := Lib.hid (k.bytes_length hk.st)
  have HTW : Hid (∀ (W : World) (A : Option Addr) (c : Nat) (bs : List UInt8), Reads W W.heap.size 1 A 31 (bs.map B8) → Calls Try.prog 18 #[.slice A 31 c] W fun e w' => ∃ g d, e = .returned (.slice (some ⟨g, 0, none⟩) 31 d) ∧ w'.ownsRow W.heap.size 5 1 (.slice (some ⟨g, 0, none⟩) 31 d) 31 (bs.map B8) ∧ Below W.heap.size W w') := Lib.hid fun W A c bs hx => by
    refine (twin_any A 31 c bs W _ hx (by omega)).mono ?_
    rintro e w' ⟨v, he, ho, hb⟩
    obtain ⟨A', d, rfl, hle⟩ := own_shape ho
    obtain ⟨g, rfl⟩ := own_head ho (by decide)
    exact ⟨g, d, he, ho, hb⟩
  obtain ⟨a0, a1, a2, a3, a4, a5, a6, a7, n0, n1, n2, n3, n4, hv⟩ := agg_hid l hl.st
  obtain ⟨b0, b1, b2, b3, b4, b5, b6, b7, m0, m1, m2, m3, m4, hu⟩ := agg_hid k hk.st
  rw [hv] at HF1 HEN1 HPA1 HES1 HNE1 ⊢
  rw [hu] at HF2 HEN2 HPA2 HES2 ⊢
  obtain ⟨x1, hx1⟩ : ∃ x, x = l.bytes := ⟨_, rfl⟩
  obtain ⟨x2, hx2⟩ : ∃ x, x = k.bytes := ⟨_, rfl⟩
  rw [← hx1] at HEN1 HPA1 HLN1
  rw [← hx2] at HEN2 HPA2 HLN2
  obtain ⟨s1, hs1⟩ : ∃ s : ByteArray, s = ⟨x1.toArray⟩ := ⟨_, rfl⟩
  have HS1 := Lib.hid hs1
  obtain ⟨i5, hi5, hz0, hz1, hz2⟩ := info_parts byteInfo
  clear hv hu hl hk hml hmk hx1 hx2 hs1
  go_enter Try.func8, Try.ntmps8
  go_wp2_with fail
  refine (known_any _).mono ?_
  rintro e w1 ⟨rfl, hb1⟩
  have K1 := Lib.hid (((Blk.new w 26 #[.int .u8 (a0.toNat : Int), .int .u8 (a1.toNat : Int), .int .u8 (a2.toNat : Int), .int .u8 (a3.toNat : Int), .int .u8 (a4.toNat : Int), .int .u8 (a5.toNat : Int), .int .u8 (a6.toNat : Int), .int .u8 (a7.toNat : Int), .int .i64 n0, .int .i64 n1, .int .i64 n2, .int .i64 n3, .int .i64 n4]).alloc _).below hb1 (by rw [alloc_size, alloc_size]; omega))
  have J1 := Lib.hid ((blk_last (w.alloc (.cells #[.int .u8 (a0.toNat : Int), .int .u8 (a1.toNat : Int), .int .u8 (a2.toNat : Int), .int .u8 (a3.toNat : Int), .int .u8 (a4.toNat : Int), .int .u8 (a5.toNat : Int), .int .u8 (a6.toNat : Int), .int .u8 (a7.toNat : Int), .int .i64 n0, .int .i64 n1, .int .i64 n2, .int .i64 n3, .int .i64 n4] 26)) (w.heap.size + 1) 26 #[.int .u8 (b0.toNat : Int), .int .u8 (b1.toNat : Int), .int .u8 (b2.toNat : Int), .int .u8 (b3.toNat : Int), .int .u8 (b4.toNat : Int), .int .u8 (b5.toNat : Int), .int .u8 (b6.toNat : Int), .int .u8 (b7.toNat : Int), .int .i64 m0, .int .i64 m1, .int .i64 m2, .int .i64 m3, .int .i64 m4] (by rw [alloc_size])).below hb1 (by rw [alloc_size, alloc_size]; omega))
  have HB1 : Hid (Below w.heap.size w w1) := Lib.hid ((((Below.refl _ w).alloc (Nat.le_refl _) _).alloc (by rw [alloc_size]; omega) _).trans (hb1.mono (by rw [alloc_size, alloc_size]; omega)))
  clear hb1
  have y0 : w1.cell? ⟨w.heap.size, 0, none⟩ = some (.int .u8 (a0.toNat : Int)) := K1.out.cell 0
  have y1 : w1.cell? ⟨w.heap.size, 1, none⟩ = some (.int .u8 (a1.toNat : Int)) := K1.out.cell 1
  have y2 : w1.cell? ⟨w.heap.size, 2, none⟩ = some (.int .u8 (a2.toNat : Int)) := K1.out.cell 2
  have y3 : w1.cell? ⟨w.heap.size, 3, none⟩ = some (.int .u8 (a3.toNat : Int)) := K1.out.cell 3
  have y4 : w1.cell? ⟨w.heap.size, 4, none⟩ = some (.int .u8 (a4.toNat : Int)) := K1.out.cell 4
  have y5 : w1.cell? ⟨w.heap.size, 5, none⟩ = some (.int .u8 (a5.toNat : Int)) := K1.out.cell 5
  have y6 : w1.cell? ⟨w.heap.size, 6, none⟩ = some (.int .u8 (a6.toNat : Int)) := K1.out.cell 6
  have y7 : w1.cell? ⟨w.heap.size, 7, none⟩ = some (.int .u8 (a7.toNat : Int)) := K1.out.cell 7
  have y8 : w1.cell? ⟨w.heap.size, 8, none⟩ = some (.int .i64 n0) := K1.out.cell 8
  have y9 : w1.cell? ⟨w.heap.size, 9, none⟩ = some (.int .i64 n1) := K1.out.cell 9
  have y10 : w1.cell? ⟨w.heap.size, 10, none⟩ = some (.int .i64 n2) := K1.out.cell 10
  have y11 : w1.cell? ⟨w.heap.size, 11, none⟩ = some (.int .i64 n3) := K1.out.cell 11
  have y12 : w1.cell? ⟨w.heap.size, 12, none⟩ = some (.int .i64 n4) := K1.out.cell 12
  go_wp2_with fail
  refine (HF1.out _).mono ?_
  rintro e w2 ⟨rfl, hb⟩
  have K2 := Lib.hid (K1.out.below hb K1.out.lt)
  have J2 := Lib.hid (J1.out.below hb J1.out.lt)
  have HB2 : Hid (Below w.heap.size w w2) := Lib.hid (HB1.out.trans (hb.mono HB1.out.size))
  have hz2' := hb.size
  clear hb y0 y1 y2 y3 y4 y5 y6 y7 y8 y9 y10 y11 y12
  have y0 : w2.cell? ⟨w.heap.size + 1, 0, none⟩ = some (.int .u8 (b0.toNat : Int)) := J2.out.cell 0
  have y1 : w2.cell? ⟨w.heap.size + 1, 1, none⟩ = some (.int .u8 (b1.toNat : Int)) := J2.out.cell 1
  have y2 : w2.cell? ⟨w.heap.size + 1, 2, none⟩ = some (.int .u8 (b2.toNat : Int)) := J2.out.cell 2
  have y3 : w2.cell? ⟨w.heap.size + 1, 3, none⟩ = some (.int .u8 (b3.toNat : Int)) := J2.out.cell 3
  have y4 : w2.cell? ⟨w.heap.size + 1, 4, none⟩ = some (.int .u8 (b4.toNat : Int)) := J2.out.cell 4
  have y5 : w2.cell? ⟨w.heap.size + 1, 5, none⟩ = some (.int .u8 (b5.toNat : Int)) := J2.out.cell 5
  have y6 : w2.cell? ⟨w.heap.size + 1, 6, none⟩ = some (.int .u8 (b6.toNat : Int)) := J2.out.cell 6
  have y7 : w2.cell? ⟨w.heap.size + 1, 7, none⟩ = some (.int .u8 (b7.toNat : Int)) := J2.out.cell 7
  have y8 : w2.cell? ⟨w.heap.size + 1, 8, none⟩ = some (.int .i64 m0) := J2.out.cell 8
  have y9 : w2.cell? ⟨w.heap.size + 1, 9, none⟩ = some (.int .i64 m1) := J2.out.cell 9
  have y10 : w2.cell? ⟨w.heap.size + 1, 10, none⟩ = some (.int .i64 m2) := J2.out.cell 10
  have y11 : w2.cell? ⟨w.heap.size + 1, 11, none⟩ = some (.int .i64 m3) := J2.out.cell 11
  have y12 : w2.cell? ⟨w.heap.size + 1, 12, none⟩ = some (.int .i64 m4) := J2.out.cell 12
  go_wp2_with fail
  refine (HF2.out _).mono ?_
  rintro e w3 ⟨rfl, hb⟩
  have K3 := Lib.hid (K2.out.below hb K2.out.lt)
  have J3 := Lib.hid (J2.out.below hb J2.out.lt)
  have HB3 : Hid (Below w.heap.size w w3) := Lib.hid (HB2.out.trans (hb.mono HB2.out.size))
  have hz3' := hb.size
  clear hb y0 y1 y2 y3 y4 y5 y6 y7 y8 y9 y10 y11 y12
  have y0 : w3.cell? ⟨w.heap.size, 0, none⟩ = some (.int .u8 (a0.toNat : Int)) := K3.out.cell 0
  have y1 : w3.cell? ⟨w.heap.size, 1, none⟩ = some (.int .u8 (a1.toNat : Int)) := K3.out.cell 1
  have y2 : w3.cell? ⟨w.heap.size, 2, none⟩ = some (.int .u8 (a2.toNat : Int)) := K3.out.cell 2
  have y3 : w3.cell? ⟨w.heap.size, 3, none⟩ = some (.int .u8 (a3.toNat : Int)) := K3.out.cell 3
  have y4 : w3.cell? ⟨w.heap.size, 4, none⟩ = some (.int .u8 (a4.toNat : Int)) := K3.out.cell 4
  have y5 : w3.cell? ⟨w.heap.size, 5, none⟩ = some (.int .u8 (a5.toNat : Int)) := K3.out.cell 5
  have y6 : w3.cell? ⟨w.heap.size, 6, none⟩ = some (.int .u8 (a6.toNat : Int)) := K3.out.cell 6
  have y7 : w3.cell? ⟨w.heap.size, 7, none⟩ = some (.int .u8 (a7.toNat : Int)) := K3.out.cell 7
  have y8 : w3.cell? ⟨w.heap.size, 8, none⟩ = some (.int .i64 n0) := K3.out.cell 8
  have y9 : w3.cell? ⟨w.heap.size, 9, none⟩ = some (.int .i64 n1) := K3.out.cell 9
  have y10 : w3.cell? ⟨w.heap.size, 10, none⟩ = some (.int .i64 n2) := K3.out.cell 10
  have y11 : w3.cell? ⟨w.heap.size, 11, none⟩ = some (.int .i64 n3) := K3.out.cell 11
  have y12 : w3.cell? ⟨w.heap.size, 12, none⟩ = some (.int .i64 n4) := K3.out.cell 12
  go_wp2_with fail
  refine (HEN1.out _).mono ?_
  rintro e w4 ⟨ga, ca, rfl, ho, hb⟩
  have Oa4 := Lib.hid (ownsRow_base_a ho (Nat.zero_le _))
  have hga : w3.heap.size ≤ ga ∧ ga < w4.heap.size := ho.lt _ rfl
  have K4 := Lib.hid (K3.out.below hb K3.out.lt)
  have J4 := Lib.hid (J3.out.below hb J3.out.lt)
  have HB4 : Hid (Below w.heap.size w w4) := Lib.hid (HB3.out.trans (hb.mono HB3.out.size))
  have hz4' := hb.size
  clear hb ho y0 y1 y2 y3 y4 y5 y6 y7 y8 y9 y10 y11 y12
  have y0 : w4.cell? ⟨w.heap.size + 1, 0, none⟩ = some (.int .u8 (b0.toNat : Int)) := J4.out.cell 0
  have y1 : w4.cell? ⟨w.heap.size + 1, 1, none⟩ = some (.int .u8 (b1.toNat : Int)) := J4.out.cell 1
  have y2 : w4.cell? ⟨w.heap.size + 1, 2, none⟩ = some (.int .u8 (b2.toNat : Int)) := J4.out.cell 2
  have y3 : w4.cell? ⟨w.heap.size + 1, 3, none⟩ = some (.int .u8 (b3.toNat : Int)) := J4.out.cell 3
  have y4 : w4.cell? ⟨w.heap.size + 1, 4, none⟩ = some (.int .u8 (b4.toNat : Int)) := J4.out.cell 4
  have y5 : w4.cell? ⟨w.heap.size + 1, 5, none⟩ = some (.int .u8 (b5.toNat : Int)) := J4.out.cell 5
  have y6 : w4.cell? ⟨w.heap.size + 1, 6, none⟩ = some (.int .u8 (b6.toNat : Int)) := J4.out.cell 6
  have y7 : w4.cell? ⟨w.heap.size + 1, 7, none⟩ = some (.int .u8 (b7.toNat : Int)) := J4.out.cell 7
  have y8 : w4.cell? ⟨w.heap.size + 1, 8, none⟩ = some (.int .i64 m0) := J4.out.cell 8
  have y9 : w4.cell? ⟨w.heap.size + 1, 9, none⟩ = some (.int .i64 m1) := J4.out.cell 9
  have y10 : w4.cell? ⟨w.heap.size + 1, 10, none⟩ = some (.int .i64 m2) := J4.out.cell 10
  have y11 : w4.cell? ⟨w.heap.size + 1, 11, none⟩ = some (.int .i64 m3) := J4.out.cell 11
  have y12 : w4.cell? ⟨w.heap.size + 1, 12, none⟩ = some (.int .i64 m4) := J4.out.cell 12
  go_wp2_with fail
  refine (HEN2.out _).mono ?_
  rintro e w5 ⟨gb, cb, rfl, ho, hb⟩
  have Ob5 := Lib.hid (ownsRow_base_a ho (Nat.zero_le _))
  have hgb : w4.heap.size ≤ gb ∧ gb < w5.heap.size := ho.lt _ rfl
  have K5 := Lib.hid (K4.out.below hb K4.out.lt)
  have J5 := Lib.hid (J4.out.below hb J4.out.lt)
  have HB5 : Hid (Below w.heap.size w w5) := Lib.hid (HB4.out.trans (hb.mono HB4.out.size))
  have Oa5 := Lib.hid (ownsRow_below Oa4.out hb)
  have hz5' := hb.size
  clear hb ho y0 y1 y2 y3 y4 y5 y6 y7 y8 y9 y10 y11 y12
  have y0 : w5.cell? ⟨w.heap.size, 0, none⟩ = some (.int .u8 (a0.toNat : Int)) := K5.out.cell 0
  have y1 : w5.cell? ⟨w.heap.size, 1, none⟩ = some (.int .u8 (a1.toNat : Int)) := K5.out.cell 1
  have y2 : w5.cell? ⟨w.heap.size, 2, none⟩ = some (.int .u8 (a2.toNat : Int)) := K5.out.cell 2
  have y3 : w5.cell? ⟨w.heap.size, 3, none⟩ = some (.int .u8 (a3.toNat : Int)) := K5.out.cell 3
  have y4 : w5.cell? ⟨w.heap.size, 4, none⟩ = some (.int .u8 (a4.toNat : Int)) := K5.out.cell 4
  have y5 : w5.cell? ⟨w.heap.size, 5, none⟩ = some (.int .u8 (a5.toNat : Int)) := K5.out.cell 5
  have y6 : w5.cell? ⟨w.heap.size, 6, none⟩ = some (.int .u8 (a6.toNat : Int)) := K5.out.cell 6
  have y7 : w5.cell? ⟨w.heap.size, 7, none⟩ = some (.int .u8 (a7.toNat : Int)) := K5.out.cell 7
  have y8 : w5.cell? ⟨w.heap.size, 8, none⟩ = some (.int .i64 n0) := K5.out.cell 8
  have y9 : w5.cell? ⟨w.heap.size, 9, none⟩ = some (.int .i64 n1) := K5.out.cell 9
  have y10 : w5.cell? ⟨w.heap.size, 10, none⟩ = some (.int .i64 n2) := K5.out.cell 10
  have y11 : w5.cell? ⟨w.heap.size, 11, none⟩ = some (.int .i64 n3) := K5.out.cell 11
  have y12 : w5.cell? ⟨w.heap.size, 12, none⟩ = some (.int .i64 n4) := K5.out.cell 12
  go_wp2_with fail
  refine (HEN1.out _).mono ?_
  rintro e w6 ⟨gc, cc, rfl, ho, hb⟩
  have Oc6 := Lib.hid (ownsRow_base_a ho (Nat.zero_le _))
  have hgc : w5.heap.size ≤ gc ∧ gc < w6.heap.size := ho.lt _ rfl
  have K6 := Lib.hid (K5.out.below hb K5.out.lt)
  have J6 := Lib.hid (J5.out.below hb J5.out.lt)
  have HB6 : Hid (Below w.heap.size w w6) := Lib.hid (HB5.out.trans (hb.mono HB5.out.size))
  have Oa6 := Lib.hid (ownsRow_below Oa5.out hb)
  have Ob6 := Lib.hid (ownsRow_below Ob5.out hb)
  have hz6' := hb.size
  clear hb ho y0 y1 y2 y3 y4 y5 y6 y7 y8 y9 y10 y11 y12
  have y0 : w6.cell? ⟨w.heap.size, 0, none⟩ = some (.int .u8 (a0.toNat : Int)) := K6.out.cell 0
  have y1 : w6.cell? ⟨w.heap.size, 1, none⟩ = some (.int .u8 (a1.toNat : Int)) := K6.out.cell 1
  have y2 : w6.cell? ⟨w.heap.size, 2, none⟩ = some (.int .u8 (a2.toNat : Int)) := K6.out.cell 2
  have y3 : w6.cell? ⟨w.heap.size, 3, none⟩ = some (.int .u8 (a3.toNat : Int)) := K6.out.cell 3
  have y4 : w6.cell? ⟨w.heap.size, 4, none⟩ = some (.int .u8 (a4.toNat : Int)) := K6.out.cell 4
  have y5 : w6.cell? ⟨w.heap.size, 5, none⟩ = some (.int .u8 (a5.toNat : Int)) := K6.out.cell 5
  have y6 : w6.cell? ⟨w.heap.size, 6, none⟩ = some (.int .u8 (a6.toNat : Int)) := K6.out.cell 6
  have y7 : w6.cell? ⟨w.heap.size, 7, none⟩ = some (.int .u8 (a7.toNat : Int)) := K6.out.cell 7
  have y8 : w6.cell? ⟨w.heap.size, 8, none⟩ = some (.int .i64 n0) := K6.out.cell 8
  have y9 : w6.cell? ⟨w.heap.size, 9, none⟩ = some (.int .i64 n1) := K6.out.cell 9
  have y10 : w6.cell? ⟨w.heap.size, 10, none⟩ = some (.int .i64 n2) := K6.out.cell 10
  have y11 : w6.cell? ⟨w.heap.size, 11, none⟩ = some (.int .i64 n3) := K6.out.cell 11
  have y12 : w6.cell? ⟨w.heap.size, 12, none⟩ = some (.int .i64 n4) := K6.out.cell 12
  go_wp2_with fail
  refine (HEN1.out _).mono ?_
  rintro e w7 ⟨gd, cd, rfl, ho, hb⟩
  have Od7 := Lib.hid (ownsRow_base_a ho (Nat.zero_le _))
  have hgd : w6.heap.size ≤ gd ∧ gd < w7.heap.size := ho.lt _ rfl
  have K7 := Lib.hid (K6.out.below hb K6.out.lt)
  have J7 := Lib.hid (J6.out.below hb J6.out.lt)
  have HB7 : Hid (Below w.heap.size w w7) := Lib.hid (HB6.out.trans (hb.mono HB6.out.size))
  have Oa7 := Lib.hid (ownsRow_below Oa6.out hb)
  have Ob7 := Lib.hid (ownsRow_below Ob6.out hb)
  have Oc7 := Lib.hid (ownsRow_below Oc6.out hb)
  have hz7' := hb.size
  clear hb ho y0 y1 y2 y3 y4 y5 y6 y7 y8 y9 y10 y11 y12
  have hpw : w.heap.size + 1 < w1.heap.size := J1.out.lt
  have cva := conv_at w7 _ (some ⟨ga, 0, none⟩) x1 31 ca (Reads.of_own Oa7.out)
  have cvc := conv_at w7 _ (some ⟨gc, 0, none⟩) x1 31 cc (Reads.of_own Oc7.out)
  have cvd := conv_at w7 _ (some ⟨gd, 0, none⟩) x1 31 cd (Reads.of_own Od7.out)
  rw [← HS1.out] at cva cvc cvd
  go_wp2_with fail
  clear cva cvc cvd
  refine (HTW.out _ _ ca x1 (Reads.of_own Oa7.out)).mono ?_
  rintro e w8 ⟨gt, ct, rfl, ho8, hb8⟩
  have OT8 := Lib.hid ho8
  have K8 := Lib.hid (K7.out.below hb8 K7.out.lt)
  have J8 := Lib.hid (J7.out.below hb8 J7.out.lt)
  have HB8 : Hid (Below w.heap.size w w8) := Lib.hid (HB7.out.trans (hb8.mono HB7.out.size))
  have HC8 : Hid (Below w7.heap.size w7 w8) := Lib.hid hb8
  have hz8' := hb8.size
  clear ho8 hb8
  have hw8 := HB8.out.size
  go_wp2_with (at_builtin; go_loud (refine wpList_append_any _ rfl _ _ 33 rfl w7.heap.size 5 i5 _ 1 1 Try.underlying33 hi5 hz0 hz1 hz2 rfl (by omega) (.slice (some ⟨gt, 0, none⟩) 31 ct) 31 _ rfl (OT8.out.alloc _) (w8.heap.size + 1) (some ⟨w8.heap.size, 0, none⟩) 8 8 (tail8.map B8) rfl (tail_reads w8) tail_one (by decide) (by decide) (by rw [alloc_size]; omega) ?_; intro v9 w9 hown hg hat; obtain ⟨ar, cr, hv9, hcr⟩ := own_shape hown; rw [hv9] at hown; obtain ⟨gr, har⟩ := own_head hown (by decide); subst har; subst hv9; rw [← List.map_append] at hown; have OR9 := Lib.hid hown; have HC9 : Hid (Below w7.heap.size w7 w9) := Lib.hid ((HC8.out.alloc (by omega) _).grown hg (by rw [alloc_size]; omega) (fun i hi => (OT8.out.lt i hi).1)); clear hown hg hat))
  have hgr : w7.heap.size ≤ gr ∧ gr < w9.heap.size := OR9.out.lt _ rfl
  have HTK : Hid (((x1 ++ tail8).map B8).take 31 = x1.map B8) := Lib.hid (by rw [List.map_append, List.take_append_of_le_length (by rw [List.length_map, HLN1.out]; exact Nat.le_refl _), List.take_of_length_le (by rw [List.length_map, HLN1.out]; exact Nat.le_refl _)])
  have HPR9 := Lib.hid (HPA1.out w9 gr cr (by rw [← HTK.out]; exact own_prefix OR9.out (by decide)) (by omega))
  refine HPR9.out.mono ?_
  rintro e w10 ⟨rfl, hb10⟩
  have HC10 : Hid (Below w7.heap.size w7 w10) := Lib.hid (HC9.out.trans (hb10.mono HC9.out.size))
  have OR10 := Lib.hid (ownsRow_below OR9.out hb10)
  have hz10 := HC10.out.size
  clear hb10
  go_upto_region 13 with fail
  refine wp_world fun X hX => ?_
  obtain ⟨pL, hpL⟩ : ∃ p, p = w10.heap.size := ⟨_, rfl⟩
  have PX : Hid (Blk X pL 26 #[.int .u8 (a0.toNat : Int), .int .u8 (a1.toNat : Int), .int .u8 (a2.toNat : Int), .int .u8 (a3.toNat : Int), .int .u8 (a4.toNat : Int), .int .u8 (a5.toNat : Int), .int .u8 (a6.toNat : Int), .int .u8 (a7.toNat : Int), .int .i64 n0, .int .i64 n1, .int .i64 n2, .int .i64 n3, .int .i64 n4]) := Lib.hid (by rw [hX, hpL]; exact Blk.new _ _ _)
  have HCX : Hid (Below w7.heap.size w7 X) := Lib.hid (by rw [hX]; exact HC10.out.alloc hz10 _)
  have ORX : Hid (X.ownsRow 0 5 1 (.slice (some ⟨gr, 0, none⟩) 39 cr) 39 ((x1 ++ tail8).map B8)) := Lib.hid (by rw [hX]; exact ownsRow_base_a (OR10.out.alloc _) (Nat.zero_le _))
  have hgrL : gr < pL := by have := (OR10.out.lt gr rfl).2; omega
  rw [← hpL]
  clear hX hpL
  have hzX := HCX.out.size
  have KX := Lib.hid (K7.out.below HCX.out (by omega))
  have JX := Lib.hid (J7.out.below HCX.out (by omega))
  have HBX : Hid (Below w.heap.size w X) := Lib.hid (HB7.out.trans (HCX.out.mono HB7.out.size))
  have OaX := Lib.hid (Oa7.out.keep_below HCX.out (Nat.le_refl _))
  have ObX := Lib.hid (Ob7.out.keep_below HCX.out (Nat.le_refl _))
  have OcX := Lib.hid (Oc7.out.keep_below HCX.out (Nat.le_refl _))
  have OdX := Lib.hid (Od7.out.keep_below HCX.out (Nat.le_refl _))
  have hXp : pL < X.heap.size := PX.out.lt
  go_cut [114] (fun s114 wx => s114 = .bool false ∧ Below X.heap.size X wx)
  case first =>
    obtain ⟨s9, hs9⟩ : ∃ s : ByteArray, s = ⟨(x1 ++ tail8).toArray⟩ := ⟨_, rfl⟩
    have HS9 := Lib.hid hs9
    have HL9 : Hid ((x1 ++ tail8).length = 39) := Lib.hid (by rw [List.length_append, HLN1.out]; rfl)
    have HCV : Hid (∀ V, Below X.heap.size X V → (convert 33 9 (.slice (some ⟨gr, 0, none⟩) 39 cr)).run Try.prog V = .ok (.string s9) V) := Lib.hid fun V hV => by
      rw [HS9.out]; exact conv_at V _ _ (x1 ++ tail8) 39 cr ((Reads.of_own ORX.out).below hV)
    have HRA : Hid (∀ V, Below X.heap.size X V → Reads V V.heap.size 1 (some ⟨ga, 0, none⟩) 31 (x1.map B8)) := Lib.hid fun V hV => ((Reads.of_own OaX.out).below hV).more hV.size
    have hd0 : Below X.heap.size X X.drew := below_drew1 (Below.refl _ X)
    have hd1 : ∀ o, Below X.heap.size X (X.alloc o).drew := fun o => below_drew1 ((Below.refl _ X).alloc (Nat.le_refl _) o)
    have HD0 := Lib.hid hd0
    have HD1 := Lib.hid hd1
    have cv0 := HCV.out _ hd0
    have cv1 := fun o => HCV.out _ (hd1 o)
    clear hs9 hd0 hd1
    have y0 : X.cell? ⟨w.heap.size, 0, none⟩ = some (.int .u8 (a0.toNat : Int)) := KX.out.cell 0
    have y1 : X.cell? ⟨w.heap.size, 1, none⟩ = some (.int .u8 (a1.toNat : Int)) := KX.out.cell 1
    have y2 : X.cell? ⟨w.heap.size, 2, none⟩ = some (.int .u8 (a2.toNat : Int)) := KX.out.cell 2
    have y3 : X.cell? ⟨w.heap.size, 3, none⟩ = some (.int .u8 (a3.toNat : Int)) := KX.out.cell 3
    have y4 : X.cell? ⟨w.heap.size, 4, none⟩ = some (.int .u8 (a4.toNat : Int)) := KX.out.cell 4
    have y5 : X.cell? ⟨w.heap.size, 5, none⟩ = some (.int .u8 (a5.toNat : Int)) := KX.out.cell 5
    have y6 : X.cell? ⟨w.heap.size, 6, none⟩ = some (.int .u8 (a6.toNat : Int)) := KX.out.cell 6
    have y7 : X.cell? ⟨w.heap.size, 7, none⟩ = some (.int .u8 (a7.toNat : Int)) := KX.out.cell 7
    have y8 : X.cell? ⟨w.heap.size, 8, none⟩ = some (.int .i64 n0) := KX.out.cell 8
    have y9 : X.cell? ⟨w.heap.size, 9, none⟩ = some (.int .i64 n1) := KX.out.cell 9
    have y10 : X.cell? ⟨w.heap.size, 10, none⟩ = some (.int .i64 n2) := KX.out.cell 10
    have y11 : X.cell? ⟨w.heap.size, 11, none⟩ = some (.int .i64 n3) := KX.out.cell 11
    have y12 : X.cell? ⟨w.heap.size, 12, none⟩ = some (.int .i64 n4) := KX.out.cell 12
    have z0 : X.cell? ⟨pL, 0, none⟩ = some (.int .u8 (a0.toNat : Int)) := PX.out.cell 0
    have z1 : X.cell? ⟨pL, 1, none⟩ = some (.int .u8 (a1.toNat : Int)) := PX.out.cell 1
    have z2 : X.cell? ⟨pL, 2, none⟩ = some (.int .u8 (a2.toNat : Int)) := PX.out.cell 2
    have z3 : X.cell? ⟨pL, 3, none⟩ = some (.int .u8 (a3.toNat : Int)) := PX.out.cell 3
    have z4 : X.cell? ⟨pL, 4, none⟩ = some (.int .u8 (a4.toNat : Int)) := PX.out.cell 4
    have z5 : X.cell? ⟨pL, 5, none⟩ = some (.int .u8 (a5.toNat : Int)) := PX.out.cell 5
    have z6 : X.cell? ⟨pL, 6, none⟩ = some (.int .u8 (a6.toNat : Int)) := PX.out.cell 6
    have z7 : X.cell? ⟨pL, 7, none⟩ = some (.int .u8 (a7.toNat : Int)) := PX.out.cell 7
    have z8 : X.cell? ⟨pL, 8, none⟩ = some (.int .i64 n0) := PX.out.cell 8
    have z9 : X.cell? ⟨pL, 9, none⟩ = some (.int .i64 n1) := PX.out.cell 9
    have z10 : X.cell? ⟨pL, 10, none⟩ = some (.int .i64 n2) := PX.out.cell 10
    have z11 : X.cell? ⟨pL, 11, none⟩ = some (.int .i64 n3) := PX.out.cell 11
    have z12 : X.cell? ⟨pL, 12, none⟩ = some (.int .i64 n4) := PX.out.cell 12
    have hne := HNE1.out
    have tok : True := trivial
    go_region_law (first
      | (have _t := tok; go_simp; go_at_call 18; clear tok; refine (HTW.out _ _ ca x1 (by first | exact HRA.out _ HD0.out | exact HRA.out _ (HD1.out _))).mono ?_; rintro e V1 ⟨g1, d1, rfl, ho, hb⟩; have HV1 : Hid (Below X.heap.size X V1) := Lib.hid (by first | exact HD0.out.trans hb | exact (HD1.out _).trans (hb.mono (by show X.heap.size ≤ (X.alloc _).heap.size; rw [alloc_size]; omega))); have hle : X.heap.size ≤ V1.heap.size := HV1.out.size; have HOV : Hid (V1.ownsRow X.heap.size 5 1 (.slice (some ⟨g1, 0, none⟩) 31 d1) 31 (x1.map B8)) := Lib.hid (ownsRow_base_a ho (by first | exact Nat.le_refl _ | (show X.heap.size ≤ (X.alloc _).heap.size; rw [alloc_size]; omega))); have HBB := Lib.hid hb; have cvV := HCV.out V1 HV1.out; have cvVa := fun o => HCV.out (V1.alloc o) (HV1.out.alloc hle o); clear ho hb)
      | (refine step_append_grd _ (by first | rfl | simp [Region.wanted, yielded]) _ _ 33 rfl X.heap.size 5 i5 _ 1 1 Try.underlying33 hi5 hz0 hz1 hz2 rfl (by omega) (.slice (some ⟨g1, 0, none⟩) 31 d1) 31 _ (by first | rfl | simp [Act.eval, Act.put]) (HOV.out.alloc _) _ (some ⟨V1.heap.size, 0, none⟩) 8 8 (tail8.map B8) (by first | rfl | simp [Act.eval, Act.put]) (tail_reads V1) tail_one (by decide) (by decide) (by first | exact hle | (rw [alloc_size]; exact Nat.le_succ_of_le hle)) ?_; intro v2 V2 hown hg hat; have HV2 : Hid (Below X.heap.size X V2) := Lib.hid ((HV1.out.alloc hle _).grown hg (by rw [alloc_size]; exact Nat.le_succ_of_le hle) (fun i hi => (HOV.out.lt i hi).1)); obtain ⟨A9, C9, hv9, _⟩ := own_shape hown; subst hv9; rw [← List.map_append] at hown; have cv9 := conv_at V2 _ A9 (x1 ++ tail8) 39 C9 (Reads.of_own hown); rw [← HS9.out] at cv9; have cvV2 := HCV.out V2 HV2.out; clear hown hg hat)
      | (refine step_append_grd _ (by first | rfl | simp [Region.wanted, yielded]) _ _ 33 rfl X.heap.size 5 i5 _ 1 1 Try.underlying33 hi5 hz0 hz1 hz2 rfl (by omega) (.slice (some ⟨g1, 0, none⟩) 31 d1) 31 _ (by first | rfl | simp [Act.eval, Act.put]) HOV.out _ (some ⟨X.heap.size, 0, none⟩) 8 8 (tail8.map B8) (by first | rfl | simp [Act.eval, Act.put]) (tail_below HBB.out) tail_one (by decide) (by decide) (by first | exact hle | (rw [alloc_size]; exact Nat.le_succ_of_le hle)) ?_; intro v2 V2 hown hg hat; have HV2 : Hid (Below X.heap.size X V2) := Lib.hid (HV1.out.grown hg hle (fun i hi => (HOV.out.lt i hi).1)); obtain ⟨A9, C9, hv9, _⟩ := own_shape hown; subst hv9; rw [← List.map_append] at hown; have cv9 := conv_at V2 _ A9 (x1 ++ tail8) 39 C9 (Reads.of_own hown); rw [← HS9.out] at cv9; have cvV2 := HCV.out V2 HV2.out; clear hown hg hat))
    all_goals
      go_wp2_with fail
      go_meet
      exact ⟨rfl, HV2.out⟩
  case rest =>
    obtain ⟨w11, rfl⟩ : ∃ x, x = wc := ⟨_, rfl⟩
    obtain ⟨rfl, hb11⟩ := hcut
    have hz11 := hb11.size
    have HB11 : Hid (Below w.heap.size w w11) := Lib.hid (HBX.out.trans (hb11.mono HBX.out.size))
    have K11 := Lib.hid (KX.out.below hb11 KX.out.lt)
    have J11 := Lib.hid (JX.out.below hb11 JX.out.lt)
    have P11 := Lib.hid (PX.out.below hb11 PX.out.lt)
    have OR11 := Lib.hid (ownsRow_below ORX.out hb11)
    have Oa11 := Lib.hid (ownsRow_below OaX.out hb11)
    have Ob11 := Lib.hid (ownsRow_below ObX.out hb11)
    have Oc11 := Lib.hid (ownsRow_below OcX.out hb11)
    have Od11 := Lib.hid (ownsRow_below OdX.out hb11)
    clear hb11
    go_wp2_with fail
    refine (HTW.out _ _ cb x2 (Reads.of_own Ob11.out)).mono ?_
    rintro e w12 ⟨gv, cv, rfl, ho12, hb12⟩
    have OV12 := Lib.hid ho12
    have hgv : w11.heap.size ≤ gv ∧ gv < w12.heap.size := ho12.lt gv rfl
    have hz12 := hb12.size
    have HB12 : Hid (Below w.heap.size w w12) := Lib.hid (HB11.out.trans (hb12.mono HB11.out.size))
    have K12 := Lib.hid (K11.out.below hb12 K11.out.lt)
    have J12 := Lib.hid (J11.out.below hb12 J11.out.lt)
    have P12 := Lib.hid (P11.out.below hb12 P11.out.lt)
    have OR12 := Lib.hid (ownsRow_below OR11.out hb12)
    have Oa12 := Lib.hid (ownsRow_below Oa11.out hb12)
    have Ob12 := Lib.hid (ownsRow_below Ob11.out hb12)
    have Oc12 := Lib.hid (ownsRow_below Oc11.out hb12)
    have Od12 := Lib.hid (ownsRow_below Od11.out hb12)
    clear ho12 hb12
    go_wp2_with fail
    refine calls_at fun Y hY => ?_
    obtain ⟨ph, hph⟩ : ∃ p, p = w12.heap.size := ⟨_, rfl⟩
    rw [← hph]
    have HBY : Hid (Below w.heap.size w Y) := Lib.hid (by rw [hY]; exact HB12.out.alloc HB12.out.size _)
    have hYs : Y.heap.size = w12.heap.size + 1 := by rw [hY, alloc_size]
    have KY : Hid (Blk Y w.heap.size 26 #[.int .u8 (a0.toNat : Int), .int .u8 (a1.toNat : Int), .int .u8 (a2.toNat : Int), .int .u8 (a3.toNat : Int), .int .u8 (a4.toNat : Int), .int .u8 (a5.toNat : Int), .int .u8 (a6.toNat : Int), .int .u8 (a7.toNat : Int), .int .i64 n0, .int .i64 n1, .int .i64 n2, .int .i64 n3, .int .i64 n4]) := Lib.hid (by rw [hY]; exact K12.out.alloc _)
    have JY : Hid (Blk Y (w.heap.size + 1) 26 #[.int .u8 (b0.toNat : Int), .int .u8 (b1.toNat : Int), .int .u8 (b2.toNat : Int), .int .u8 (b3.toNat : Int), .int .u8 (b4.toNat : Int), .int .u8 (b5.toNat : Int), .int .u8 (b6.toNat : Int), .int .u8 (b7.toNat : Int), .int .i64 m0, .int .i64 m1, .int .i64 m2, .int .i64 m3, .int .i64 m4]) := Lib.hid (by rw [hY]; exact J12.out.alloc _)
    have PY : Hid (Blk Y pL 26 #[.int .u8 (a0.toNat : Int), .int .u8 (a1.toNat : Int), .int .u8 (a2.toNat : Int), .int .u8 (a3.toNat : Int), .int .u8 (a4.toNat : Int), .int .u8 (a5.toNat : Int), .int .u8 (a6.toNat : Int), .int .u8 (a7.toNat : Int), .int .i64 n0, .int .i64 n1, .int .i64 n2, .int .i64 n3, .int .i64 n4]) := Lib.hid (by rw [hY]; exact P12.out.alloc _)
    have ORY : Hid (Y.ownsRow 0 5 1 (.slice (some ⟨gr, 0, none⟩) 39 cr) 39 ((x1 ++ tail8).map B8)) := Lib.hid (by rw [hY]; exact OR12.out.alloc _)
    have OVY : Hid (Y.ownsRow w11.heap.size 5 1 (.slice (some ⟨gv, 0, none⟩) 31 cv) 31 (x2.map B8)) := Lib.hid (by rw [hY]; exact OV12.out.alloc _)
    obtain ⟨rws, hrws⟩ : ∃ r : List Rw, r = [(some ⟨ga, 0, none⟩, 31, ca), (some ⟨gb, 0, none⟩, 31, cb), (some ⟨gc, 0, none⟩, 31, cc), (some ⟨gd, 0, none⟩, 31, cd)] := ⟨_, rfl⟩
    have HRW : Hid (∀ (j : Nat) (r : Rw), rws[j]? = some r → ∃ xs, RowK Y (col4 w4.heap.size w5.heap.size w6.heap.size) j 5 (slV r) r.2.1 xs) := Lib.hid fun j r hr => by
      rw [hY]
      rw [hrws] at hr
      match j, hr with
      | 0, hr =>
        have := Option.some.inj hr
        subst this
        exact ⟨_, Oa12.out.alloc _, fun k hk => (by obtain rfl : ga = k := (by simpa [slV, Value.ownBlock] using hk); unfold col4; rw [if_pos hga.2])⟩
      | 1, hr =>
        have := Option.some.inj hr
        subst this
        exact ⟨_, Ob12.out.alloc _, fun k hk => (by obtain rfl : gb = k := (by simpa [slV, Value.ownBlock] using hk); unfold col4; rw [if_neg (by omega), if_pos hgb.2])⟩
      | 2, hr =>
        have := Option.some.inj hr
        subst this
        exact ⟨_, Oc12.out.alloc _, fun k hk => (by obtain rfl : gc = k := (by simpa [slV, Value.ownBlock] using hk); unfold col4; rw [if_neg (by omega), if_neg (by omega), if_pos hgc.2])⟩
      | 3, hr =>
        have := Option.some.inj hr
        subst this
        exact ⟨_, Od12.out.alloc _, fun k hk => (by obtain rfl : gd = k := (by simpa [slV, Value.ownBlock] using hk); unfold col4; rw [if_neg (by omega), if_neg (by omega), if_neg (by omega)])⟩
      | j + 4, hr => cases hr
    have HIN : Hid (∀ b, InF rws b → w3.heap.size ≤ b ∧ b < w7.heap.size) := Lib.hid fun b ⟨j, r, hr, hb⟩ => by
      rw [hrws] at hr
      match j, hr with
      | 0, hr =>
        have := Option.some.inj hr
        subst this
        have : ga = b := by simpa [slV, Value.ownBlock] using hb
        omega
      | 1, hr =>
        have := Option.some.inj hr
        subst this
        have : gb = b := by simpa [slV, Value.ownBlock] using hb
        omega
      | 2, hr =>
        have := Option.some.inj hr
        subst this
        have : gc = b := by simpa [slV, Value.ownBlock] using hb
        omega
      | 3, hr =>
        have := Option.some.inj hr
        subst this
        have : gd = b := by simpa [slV, Value.ownBlock] using hb
        omega
      | j + 4, hr => cases hr
    have HAP : Hid (Calls Try.prog 20 #[.slice (some ⟨ph, 0, none⟩) 4 4] Y fun e w' => e = .returned (.bool true) ∧ Touch (InF rws) Y w') := Lib.hid (by
      have h := apart_any rws ph 4 (col4 w4.heap.size w5.heap.size w6.heap.size) Y (by rw [hrws]; simp) (by
        intro r hr
        rw [hrws] at hr
        simp only [List.mem_cons, List.not_mem_nil, or_false] at hr
        rcases hr with rfl | rfl | rfl | rfl <;> simp) (by rw [hY, hph, hrws]; exact Blk.new _ _ _) HRW.out
      rw [show rws.length = 4 by rw [hrws]; rfl] at h
      exact h)
    have hYp : ph + 1 = Y.heap.size := by omega
    clear hY hrws hph
    refine HAP.out.mono ?_
    rintro e w13 ⟨rfl, ht13⟩
    have hnF : ∀ b, b < w3.heap.size ∨ w7.heap.size ≤ b → ¬ InF rws b := fun b hb hin => by have := HIN.out b hin; omega
    have hz13 := ht13.size
    have hz3 : w.heap.size + 1 < w3.heap.size := by omega
    have K13 := Lib.hid (KY.out.touch ht13 (hnF _ (by omega)))
    have J13 := Lib.hid (JY.out.touch ht13 (hnF _ (by omega)))
    have P13 := Lib.hid (PY.out.touch ht13 (hnF _ (by omega)))
    have OR13 : Hid (w13.ownsRow 0 5 1 (.slice (some ⟨gr, 0, none⟩) 39 cr) 39 ((x1 ++ tail8).map B8)) := Lib.hid (ownsRow_keep ORY.out fun b hb => ht13.block b (ORY.out.lt b hb).2 (hnF b (by have h9 : gr = b := (by simpa [Value.ownBlock] using hb); omega)))
    have OV13 : Hid (w13.ownsRow w11.heap.size 5 1 (.slice (some ⟨gv, 0, none⟩) 31 cv) 31 (x2.map B8)) := Lib.hid (ownsRow_keep OVY.out fun b hb => ht13.block b (OVY.out.lt b hb).2 (hnF b (by have := (OVY.out.lt b hb).1; omega)))
    have HB13 : Hid (Below w.heap.size w w13) := Lib.hid (HBY.out.trans (ht13.below HBY.out.size fun b hb => by have := HIN.out b hb; omega))
    clear ht13 hnF
    go_wp2_with fail
    refine (HPA1.out w13 gr cr (by rw [← HTK.out]; exact own_prefix OR13.out (by decide)) (by omega)).mono ?_
    rintro e w14 ⟨rfl, hb14⟩
    have hz14 := hb14.size
    have K14 := Lib.hid (K13.out.below hb14 K13.out.lt)
    have J14 := Lib.hid (J13.out.below hb14 J13.out.lt)
    have P14 := Lib.hid (P13.out.below hb14 P13.out.lt)
    have OR14 := Lib.hid (ownsRow_below OR13.out hb14)
    have OV14 := Lib.hid (ownsRow_below OV13.out hb14)
    have HB14 : Hid (Below w.heap.size w w14) := Lib.hid (HB13.out.trans (hb14.mono HB13.out.size))
    clear hb14
    go_wp2_with fail
    go_loopw [17] (fun s17 wr => ∃ (q : Nat) (cs : List UInt8), q ≤ 31 ∧ s17 = .int .i64 q ∧ (∀ j, cs[j]? = if j < q then x2[j]? else (x1 ++ tail8)[j]?) ∧ wr.ownsRow 0 5 1 (.slice (some ⟨gr, 0, none⟩) 39 cr) 39 (cs.map B8) ∧ Touch (fun b => b = gr) w14 wr) (fun s _ => 31 - (intOf s).toNat)
    case atStart => exact ⟨0, x1 ++ tail8, Nat.zero_le _, rfl, fun j => by rw [if_neg (by omega)], OR14.out, Touch.refl _ _⟩
    case round =>
      obtain ⟨q, cs, hq, rfl, hcs, hor, ht⟩ := hrel
      have HCS := Lib.hid hcs
      have HOR := Lib.hid hor
      have HT := Lib.hid ht
      have hzr := ht.size
      have hovr : wr.ownsRow w11.heap.size 5 1 (.slice (some ⟨gv, 0, none⟩) 31 cv) 31 (x2.map B8) := ownsRow_keep OV14.out fun b hb => ht.block b (OV14.out.lt b hb).2 (by have := (OV14.out.lt b hb).1; omega)
      by_cases h1 : q < 31
      · obtain ⟨v, hv⟩ : ∃ v, x2[q]? = some v := ⟨_, List.getElem?_eq_getElem (by have := HLN2.out; omega)⟩
        have hcv : wr.cell? ⟨gv, q, none⟩ = some (.int .u8 (v.toNat : Int)) := (hovr.cellAt q (by omega)).trans (by rw [List.getElem?_map, hv]; rfl)
        have HV := Lib.hid hv
        have hlc : cs.length = 39 := by have := hor.1; simpa using this
        obtain ⟨u, hcu⟩ : ∃ u, wr.cell? ⟨gr, q, none⟩ = some u := ⟨_, (hor.cellAt q (by omega)).trans (List.getElem?_eq_getElem (by rw [List.length_map]; omega))⟩
        have hfz : ∀ j, wr.frozen? ⟨gr, j, none⟩ = false := hor.frozenAt
        have HLC := Lib.hid hlc
        clear hcs hor ht hovr hv hlc
        go_wp2
        go_roundw
        case rel => exact ⟨q + 1, cs.set q v, by omega, by go_num, fun j => by
          by_cases hj : j = q
          · subst hj; rw [List.getElem?_set_self (by rw [HLC.out]; omega), if_pos (by omega), HV.out]
          · rw [List.getElem?_set_ne (Ne.symm hj), HCS.out]
            by_cases hj2 : j < q
            · rw [if_pos hj2, if_pos (by omega)]
            · rw [if_neg hj2, if_neg (by omega)], by have h := (HOR.out.stored q (B8 v)).1; rw [← List.map_set] at h; exact h, HT.out.put rfl _⟩
        case measure => simp [intOf]; omega
      · obtain rfl : q = 31 := by omega
        have HT2 : Hid ((cs.map B8).take 31 = x2.map B8) := Lib.hid (by
          rw [← List.map_take]
          congr 1
          apply List.ext_getElem?
          intro j
          by_cases hj : j < 31
          · rw [List.getElem?_take_of_lt hj, hcs, if_pos hj]
          · have := HLN2.out
            rw [List.getElem?_eq_none (by rw [List.length_take]; omega), List.getElem?_eq_none (by omega)])
        have HPR := Lib.hid (HPA2.out wr gr cr (by rw [← HT2.out]; exact own_prefix hor (by decide)) (by omega))
        have KR := Lib.hid (K14.out.touch ht (by omega))
        have JR := Lib.hid (J14.out.touch ht (by omega))
        have PR := Lib.hid (P14.out.touch ht (by omega))
        have HBR : Hid (Below w.heap.size w wr) := Lib.hid (HB14.out.trans (ht.below HB14.out.size fun b hb => by omega))
        clear hcs hor ht hovr
        go_wp2_with fail
        refine HPR.out.mono ?_
        rintro e w15 ⟨rfl, hb15⟩
        have K15 := Lib.hid (KR.out.below hb15 KR.out.lt)
        have J15 := Lib.hid (JR.out.below hb15 JR.out.lt)
        have P15 := Lib.hid (PR.out.below hb15 PR.out.lt)
        have hk15 := K15.out.lt
        have hj15 := J15.out.lt
        have hp15 := P15.out.lt
        have HB15 : Hid (Below w.heap.size w w15) := Lib.hid (HBR.out.trans (hb15.mono HBR.out.size))
        have hz15 := HB15.out.size
        have hes1 := HES1.out
        have hes2 := HES2.out
        clear hb15
        have y0 : w15.cell? ⟨w.heap.size, 0, none⟩ = some (.int .u8 (a0.toNat : Int)) := K15.out.cell 0
        have y1 : w15.cell? ⟨w.heap.size, 1, none⟩ = some (.int .u8 (a1.toNat : Int)) := K15.out.cell 1
        have y2 : w15.cell? ⟨w.heap.size, 2, none⟩ = some (.int .u8 (a2.toNat : Int)) := K15.out.cell 2
        have y3 : w15.cell? ⟨w.heap.size, 3, none⟩ = some (.int .u8 (a3.toNat : Int)) := K15.out.cell 3
        have y4 : w15.cell? ⟨w.heap.size, 4, none⟩ = some (.int .u8 (a4.toNat : Int)) := K15.out.cell 4
        have y5 : w15.cell? ⟨w.heap.size, 5, none⟩ = some (.int .u8 (a5.toNat : Int)) := K15.out.cell 5
        have y6 : w15.cell? ⟨w.heap.size, 6, none⟩ = some (.int .u8 (a6.toNat : Int)) := K15.out.cell 6
        have y7 : w15.cell? ⟨w.heap.size, 7, none⟩ = some (.int .u8 (a7.toNat : Int)) := K15.out.cell 7
        have y8 : w15.cell? ⟨w.heap.size, 8, none⟩ = some (.int .i64 n0) := K15.out.cell 8
        have y9 : w15.cell? ⟨w.heap.size, 9, none⟩ = some (.int .i64 n1) := K15.out.cell 9
        have y10 : w15.cell? ⟨w.heap.size, 10, none⟩ = some (.int .i64 n2) := K15.out.cell 10
        have y11 : w15.cell? ⟨w.heap.size, 11, none⟩ = some (.int .i64 n3) := K15.out.cell 11
        have y12 : w15.cell? ⟨w.heap.size, 12, none⟩ = some (.int .i64 n4) := K15.out.cell 12
        have u0 : w15.cell? ⟨w.heap.size + 1, 0, none⟩ = some (.int .u8 (b0.toNat : Int)) := J15.out.cell 0
        have u1 : w15.cell? ⟨w.heap.size + 1, 1, none⟩ = some (.int .u8 (b1.toNat : Int)) := J15.out.cell 1
        have u2 : w15.cell? ⟨w.heap.size + 1, 2, none⟩ = some (.int .u8 (b2.toNat : Int)) := J15.out.cell 2
        have u3 : w15.cell? ⟨w.heap.size + 1, 3, none⟩ = some (.int .u8 (b3.toNat : Int)) := J15.out.cell 3
        have u4 : w15.cell? ⟨w.heap.size + 1, 4, none⟩ = some (.int .u8 (b4.toNat : Int)) := J15.out.cell 4
        have u5 : w15.cell? ⟨w.heap.size + 1, 5, none⟩ = some (.int .u8 (b5.toNat : Int)) := J15.out.cell 5
        have u6 : w15.cell? ⟨w.heap.size + 1, 6, none⟩ = some (.int .u8 (b6.toNat : Int)) := J15.out.cell 6
        have u7 : w15.cell? ⟨w.heap.size + 1, 7, none⟩ = some (.int .u8 (b7.toNat : Int)) := J15.out.cell 7
        have u8 : w15.cell? ⟨w.heap.size + 1, 8, none⟩ = some (.int .i64 m0) := J15.out.cell 8
        have u9 : w15.cell? ⟨w.heap.size + 1, 9, none⟩ = some (.int .i64 m1) := J15.out.cell 9
        have u10 : w15.cell? ⟨w.heap.size + 1, 10, none⟩ = some (.int .i64 m2) := J15.out.cell 10
        have u11 : w15.cell? ⟨w.heap.size + 1, 11, none⟩ = some (.int .i64 m3) := J15.out.cell 11
        have u12 : w15.cell? ⟨w.heap.size + 1, 12, none⟩ = some (.int .i64 m4) := J15.out.cell 12
        have z0 : w15.cell? ⟨pL, 0, none⟩ = some (.int .u8 (a0.toNat : Int)) := P15.out.cell 0
        have z1 : w15.cell? ⟨pL, 1, none⟩ = some (.int .u8 (a1.toNat : Int)) := P15.out.cell 1
        have z2 : w15.cell? ⟨pL, 2, none⟩ = some (.int .u8 (a2.toNat : Int)) := P15.out.cell 2
        have z3 : w15.cell? ⟨pL, 3, none⟩ = some (.int .u8 (a3.toNat : Int)) := P15.out.cell 3
        have z4 : w15.cell? ⟨pL, 4, none⟩ = some (.int .u8 (a4.toNat : Int)) := P15.out.cell 4
        have z5 : w15.cell? ⟨pL, 5, none⟩ = some (.int .u8 (a5.toNat : Int)) := P15.out.cell 5
        have z6 : w15.cell? ⟨pL, 6, none⟩ = some (.int .u8 (a6.toNat : Int)) := P15.out.cell 6
        have z7 : w15.cell? ⟨pL, 7, none⟩ = some (.int .u8 (a7.toNat : Int)) := P15.out.cell 7
        have z8 : w15.cell? ⟨pL, 8, none⟩ = some (.int .i64 n0) := P15.out.cell 8
        have z9 : w15.cell? ⟨pL, 9, none⟩ = some (.int .i64 n1) := P15.out.cell 9
        have z10 : w15.cell? ⟨pL, 10, none⟩ = some (.int .i64 n2) := P15.out.cell 10
        have z11 : w15.cell? ⟨pL, 11, none⟩ = some (.int .i64 n3) := P15.out.cell 11
        have z12 : w15.cell? ⟨pL, 12, none⟩ = some (.int .i64 n4) := P15.out.cell 12
        go_wp2
        go_ret
        exact ⟨rfl, HB15.out.alloc hz15 _⟩
theorem labelOwn_walk (l k : Lab) (hl : l.Wf) (hk : k.Wf) (w : World) : Calls Try.prog 8 #[labV l, labV k] w fun e w' => e = .returned (.bool true) ∧ Below w.heap.size w w' := by
  by_cases h : l.may = 0 ∧ k.may = 0
  · exact own_fit l k hl hk h.1 h.2 w
  · exact own_unfit l k hl hk h w
end Go.Proofs.Ytdiaihpilniikaa
