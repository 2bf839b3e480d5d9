/- bay.read over a wound.; bay.wanted: is a head what was looked for?; bay.Look over a wound. -/
import Derived.Test.YtcbebefdbdppdaaGreatM24
namespace Go.Proofs.YtcbebefdbdppdaaGreat
open Go.RowKit Go.Maps
def seen0 (k e : Int) : Array Value := #[.int .i64 k, .int .u8 0, .int .u8 0, .int .u8 0, .int .u8 0, .int .u8 0, .int .u8 0, .int .u8 0, .int .u8 0, .int .i64 0, .int .i64 0, .int .i64 0, .string { data := #[] }, .int .i64 0, .int .i64 0, .int .i64 0, .int .i64 0, .slice none 0 0, .int .i64 e]
theorem seenInfo : (Tryz.prog.info? 57).map (·.size) = some 19 := by kernel_rfl
theorem load_seen {w : World} {g : Nat} {cs : Array Value} (hg : Blk w g 57 cs) (hl : cs.size = 19) : (loadVar 57 ⟨g, 0, none⟩).run Tryz.prog w = .ok (.agg cs) w :=
  run_loadVar_all 57 hg Tryz.underlying57 seenInfo hl
theorem store_seen {w : World} {R : Nat} {cur CK : Array Value} (h : Blk w R 57 cur) (hs : cur.size = 19) (hc : CK.size = 19) (h1 : ∀ v ∈ CK.toList, v.oneCell' = true) : ∃ w', (storeVar 57 ⟨R, 0, none⟩ (.agg CK)).run Tryz.prog w = .ok () w' ∧ Blk w' R 57 CK ∧ Touch (· = R) w w' ∧ w'.heap.size = w.heap.size :=
  run_storeVar_whole 57 h (by rw [hc]; exact seenInfo) (by rw [hs, hc]) h1
theorem seen0_one (k e : Int) : ∀ v ∈ (seen0 k e).toList, v.oneCell' = true := by
  have h1 : (seen0 k e).toList.all (fun v => v.oneCell') = true := by kernel_rfl
  exact fun v hv => List.all_eq_true.1 h1 v hv
theorem results_tc {fn : Func} {t a b : Nat} (h : fn.results = #[.tmp b, .cell a t]) (tmps : Array Value) (ad : Addr) (ha : tmps.getD a undef = .pointer (some ad)) (v : Value) (P : Program) (w : World) (hl : (loadVar t ad).run P w = .ok v w) :
    (results fn tmps).run P w = .ok (.tuple #[tmps.getD b undef, v]) w := by
  have ha' : tmps[a]?.getD undef = .pointer (some ad) := by simpa using ha
  simp [results, h, ha', asAddr, hl]
def seenK (x : Int) : Int := if x = 0 then 3 else if x = 110 then 1 else 4
def seenE (x : Int) : Int := if x = 0 then 0 else if x = 110 then 0 else x
set_option maxRecDepth 100000 in
set_option maxHeartbeats 4000000 in
theorem bread_any (q p : Nat) (X : Wnd) (S : Drv) (F : Nat → Prop) (key : List UInt8) (h1 : 1 ≤ key.length) (h2 : key.length ≤ 255) (w : World) (hd : WD w q p X S F) (hF : ∀ k, F k → k < w.heap.size) (hX : X.Ok) (hS : S.Small) (Y : Wnd) (ds : List UInt8) (x : Int) (hy : wread X (S.read (objN key)) = (Y, ds, x)) :
    Calls Tryz.prog 68 #[.iface 36 (.pointer (some ⟨q, 0, none⟩)), strV key] w fun e w' => ∃ v, e = .returned (.tuple #[v, .agg (seen0 (seenK x) (seenE x))]) ∧ (x = 0 → w'.ownsRow w.heap.size 5 1 v ds.length (ds.map B8)) ∧ WD w' q p Y S F ∧ Touch F w w' := by
  have hm : ∀ W : World, (method 437 36 (.pointer (some ⟨q, 0, none⟩)) "Read").run Tryz.prog W = .ok (17, .pointer (some ⟨q, 0, none⟩)) W := fun _ => by kernel_rfl
  have HOB := Lib.hid (fun W => object_any key h1 h2 W)
  obtain ⟨W0, hW0⟩ : ∃ W0, W0 = w.alloc (.cells (seen0 0 0) 57) := ⟨_, rfl⟩
  have HK0 : Hid (Blk W0 w.heap.size 57 (seen0 0 0)) := Lib.hid (by rw [hW0]; exact Blk.new _ _ _)
  have HB0 : Hid (Below w.heap.size w W0) := Lib.hid (by rw [hW0]; exact (Below.refl _ w).alloc (Nat.le_refl _) _)
  have hs0 : W0.heap.size = w.heap.size + 1 := by rw [hW0, alloc_size]
  have HNM : Hid ((objN key).length ≤ 511) := Lib.hid (by rw [objN_length]; omega)
  obtain ⟨nm, hnm⟩ : ∃ nm, nm = objN key := ⟨_, rfl⟩
  rw [← hnm] at HOB HNM hy
  have HY := Lib.hid hy
  have HD := Lib.hid hd
  have HF := Lib.hid hF
  have HX := Lib.hid hX
  have HS := Lib.hid hS
  have HEQ := Lib.hid hW0
  obtain ⟨kv, hkv⟩ : ∃ kv, kv = strV key := ⟨_, rfl⟩
  rw [← hkv] at HOB ⊢
  clear h1 h2 hd hF hX hS hy hW0 hnm hkv
  go_enter Tryz.func68, Tryz.ntmps68
  go_wp2_with fail
  refine calls_world fun X0 hX0 => ?_
  obtain rfl : X0 = W0 := by rw [hX0, HEQ.out]; rfl
  refine (HOB.out _).mono ?_
  rintro e w1 ⟨rfl, hb1⟩
  have HB1 : Hid (Below w.heap.size w w1) := Lib.hid (HB0.out.trans (hb1.mono (by omega)))
  have HK1 := Lib.hid (HK0.out.below hb1 HK0.out.lt)
  have hs1 : w.heap.size ≤ w1.heap.size := HB1.out.size
  have HNF : Hid (¬F w.heap.size) := Lib.hid fun hk => Nat.lt_irrefl _ (HF.out _ hk)
  clear hb1 hX0
  unfold strV
  go_wp2_with fail
  have hrd := wread_any q p X S F ⟨nm.toArray⟩ w1 (by have := HNM.out; show nm.toArray.size ≤ maxLen; rw [List.size_toArray]; unfold maxLen; omega) (HD.out.below HB1.out) HX.out HS.out
  have hyy : wread X (S.read (ByteArray.mk nm.toArray).data.toList) = (Y, ds, x) := HY.out
  rw [hyy] at hrd
  refine hrd.mono ?_
  rintro e w2 ⟨v2, rfl, ho2, hd2, ht2⟩
  have HO2 : Hid (w2.ownsRow w.heap.size 5 1 v2 ds.length (ds.map B8)) := Lib.hid (ownsRow_base_a ho2 hs1)
  have HD2 := Lib.hid hd2
  have HK2 := Lib.hid (HK1.out.touch ht2 HNF.out)
  have HT2 : Hid (Touch F w w2) := Lib.hid ((Touch.of_below HB1.out).trans (ht2.mono fun k _ hk => .inl hk))
  clear ho2 hd2 ht2 hrd hyy
  have HEND : Hid (∀ (k e : Int), ∃ w3, (storeVar 57 ⟨w.heap.size, 0, none⟩ (.agg (seen0 k e))).run Tryz.prog w2 = .ok () w3 ∧ Blk w3 w.heap.size 57 (seen0 k e) ∧ w3.ownsRow w.heap.size 5 1 v2 ds.length (ds.map B8) ∧ WD w3 q p Y S F ∧ Touch F w w3) := Lib.hid fun k e => by
    obtain ⟨w3, hr, hk, ht, hz⟩ := store_seen (CK := seen0 k e) HK2.out rfl rfl (seen0_one k e)
    refine ⟨w3, hr, hk, ownsRow_keep HO2.out fun i hi => ht.block i (HO2.out.lt i hi).2 (fun e => by subst e; exact own_blk_ne HO2.out HK2.out (by decide) hi), HD2.out.keep ht (fun i hi e => HNF.out (e ▸ hi)), HT2.out.trans (ht.mono fun i _ hi => .inr (by rw [hi]; exact ⟨Nat.le_refl _, HK2.out.lt⟩))⟩
  by_cases hx0 : x = 0
  · subst hx0
    obtain ⟨w3, hr3, hk3, ho3, hd3, ht3⟩ := HEND.out 3 0
    go_wp2_with (refine wpList_store_at rfl 57 _ _ rfl ⟨w.heap.size, 0, none⟩ rfl (.agg (seen0 3 0)) rfl w3 hr3 ?_)
    exact bodyPost_ret (v := .tuple #[v2, .agg (seen0 3 0)]) (results_tc Tryz.results68 _ ⟨w.heap.size, 0, none⟩ rfl (.agg (seen0 3 0)) _ _ (load_seen hk3 rfl)) rfl ⟨v2, rfl, by first | exact ho3 | exact fun _ => ho3, hd3, ht3⟩
  · by_cases hx1 : x = 110
    · subst hx1
      obtain ⟨w3, hr3, hk3, ho3, hd3, ht3⟩ := HEND.out 1 0
      go_wp2_with (refine wpList_store_at rfl 57 _ _ rfl ⟨w.heap.size, 0, none⟩ rfl (.agg (seen0 1 0)) rfl w3 hr3 ?_)
      exact bodyPost_ret (v := .tuple #[.slice none 0 0, .agg (seen0 1 0)]) (results_tc Tryz.results68 _ ⟨w.heap.size, 0, none⟩ rfl (.agg (seen0 1 0)) _ _ (load_seen hk3 rfl)) rfl ⟨_, rfl, fun h => absurd h hx0, hd3, ht3⟩
    · have e0 : (x == 0) = false := beq_eq_false_iff_ne.2 hx0
      have e1 : (x == 110) = false := beq_eq_false_iff_ne.2 hx1
      obtain ⟨w3, hr3, hk3, ho3, hd3, ht3⟩ := HEND.out 4 x
      have hS4 : seenK x = 4 ∧ seenE x = x := by
        unfold seenK seenE
        rw [if_neg hx0, if_neg hx1, if_neg hx0, if_neg hx1]; exact ⟨rfl, rfl⟩
      have HX0 := Lib.hid hx0
      have HS4 := Lib.hid hS4
      clear hS4 hx0 hx1
      go_wp2_with (refine wpList_store_at rfl 57 _ _ rfl ⟨w.heap.size, 0, none⟩ rfl (.agg (seen0 4 x)) rfl w3 hr3 ?_)
      exact bodyPost_ret (v := .tuple #[.slice none 0 0, .agg (seen0 4 x)]) (results_tc Tryz.results68 _ ⟨w.heap.size, 0, none⟩ rfl (.agg (seen0 4 x)) _ _ (load_seen hk3 rfl)) rfl ⟨_, by rw [HS4.out.1, HS4.out.2], fun h => absurd h HX0.out, hd3, ht3⟩
end Go.Proofs.YtcbebefdbdppdaaGreat
namespace Go.Proofs.YtcbebefdbdppdaaGreat
open Go.RowKit Go.Maps
def hdEq (a b : Hd) : Bool := (a.st == b.st) && ((a.k == b.k) && (a.m == b.m) && (a.b == b.b)) && (a.key == b.key) && (a.size == b.size) && (a.idx == b.idx) && ((a.ep == b.ep) && (a.cn == b.cn))
set_option maxRecDepth 100000 in
set_option maxHeartbeats 4000000 in
theorem hd_cmp (a b : Hd) (ha : a.st.length = 8) (hb : b.st.length = 8) (W : World) : (Op.equalIn 10000 28 (hdV a) (hdV b)).run Tryz.prog W = .ok (hdEq a b) W := by
  obtain ⟨a0, a1, a2, a3, a4, a5, a6, a7, hsa⟩ := lab_eight ha
  obtain ⟨b0, b1, b2, b3, b4, b5, b6, b7, hsb⟩ := lab_eight hb
  have e1 : hdV a = .agg #[.int .u8 (a0.toNat : Int), .int .u8 (a1.toNat : Int), .int .u8 (a2.toNat : Int), .int .u8 (a3.toNat : Int), .int .u8 (a4.toNat : Int), .int .u8 (a5.toNat : Int), .int .u8 (a6.toNat : Int), .int .u8 (a7.toNat : Int), .int .i64 a.k, .int .i64 a.m, .int .i64 a.b, .string ⟨a.key.toArray⟩, .int .i64 a.size, .int .i64 a.idx, .int .i64 a.ep, .int .i64 a.cn] := by
    unfold hdV hdCells; rw [hsa]; rfl
  have e2 : hdV b = .agg #[.int .u8 (b0.toNat : Int), .int .u8 (b1.toNat : Int), .int .u8 (b2.toNat : Int), .int .u8 (b3.toNat : Int), .int .u8 (b4.toNat : Int), .int .u8 (b5.toNat : Int), .int .u8 (b6.toNat : Int), .int .u8 (b7.toNat : Int), .int .i64 b.k, .int .i64 b.m, .int .i64 b.b, .string ⟨b.key.toArray⟩, .int .i64 b.size, .int .i64 b.idx, .int .i64 b.ep, .int .i64 b.cn] := by
    unfold hdV hdCells; rw [hsb]; rfl
  rw [e1, e2]
  have hp : Tryz.prog.stoodInHeld 28 = false := by kernel_rfl
  have hp2 : Tryz.prog.stoodInHeld 24 = false := by kernel_rfl
  have hp3 : Tryz.prog.stoodInHeld 26 = false := by kernel_rfl
  have ht : Tryz.prog.underlying 28 = some (.struct (Tryz.prog.fieldsOf 28)) := by simp [Program.fieldsOf, Tryz.underlying28]
  have ht2 : Tryz.prog.underlying 24 = some (.struct (Tryz.prog.fieldsOf 24)) := by simp [Program.fieldsOf, Tryz.underlying24]
  have ht3 : Tryz.prog.underlying 26 = some (.struct (Tryz.prog.fieldsOf 26)) := by simp [Program.fieldsOf, Tryz.underlying26]
  have g1 : ∀ W, (isAgg 22).run Tryz.prog W = .ok true W := fun W => by kernel_rfl
  have g2 : ∀ W, (isAgg 24).run Tryz.prog W = .ok true W := fun W => by kernel_rfl
  have g3 : ∀ W, (isAgg 3).run Tryz.prog W = .ok false W := fun W => by kernel_rfl
  have g4 : ∀ W, (isAgg 9).run Tryz.prog W = .ok false W := fun W => by kernel_rfl
  have g5 : ∀ W, (isAgg 26).run Tryz.prog W = .ok true W := fun W => by kernel_rfl
  have z1 : ∀ W, (sizeOf 22).run Tryz.prog W = .ok 8 W := fun W => by kernel_rfl
  have z2 : ∀ W, (sizeOf 24).run Tryz.prog W = .ok 3 W := fun W => by kernel_rfl
  have z3 : ∀ W, (sizeOf 26).run Tryz.prog W = .ok 2 W := fun W => by kernel_rfl
  obtain ⟨p1, hp1⟩ : ∃ p, p = (a.st == b.st) := ⟨_, rfl⟩
  have hbb : (Op.equalIn 9999 22 (.agg #[.int .u8 (a0.toNat : Int), .int .u8 (a1.toNat : Int), .int .u8 (a2.toNat : Int), .int .u8 (a3.toNat : Int), .int .u8 (a4.toNat : Int), .int .u8 (a5.toNat : Int), .int .u8 (a6.toNat : Int), .int .u8 (a7.toNat : Int)]) (.agg #[.int .u8 (b0.toNat : Int), .int .u8 (b1.toNat : Int), .int .u8 (b2.toNat : Int), .int .u8 (b3.toNat : Int), .int .u8 (b4.toNat : Int), .int .u8 (b5.toNat : Int), .int .u8 (b6.toNat : Int), .int .u8 (b7.toNat : Int)])).run Tryz.prog W = .ok p1 W := by
    have := run_equalIn_bytes (P := Tryz.prog) W 9997 22 5 8 Tryz.underlying22 Tryz.underlying5 (fun w => by kernel_rfl) [a0, a1, a2, a3, a4, a5, a6, a7] [b0, b1, b2, b3, b4, b5, b6, b7] rfl rfl
    rw [hp1, hsa, hsb]
    exact this
  have hs : (Op.equalIn 9999 24 (.agg #[.int .i64 a.k, .int .i64 a.m, .int .i64 a.b]) (.agg #[.int .i64 b.k, .int .i64 b.m, .int .i64 b.b])).run Tryz.prog W = .ok ((a.k == b.k) && (a.m == b.m) && (a.b == b.b)) W := by
    rw [run_equalIn_agg W 9998 24 _ _ ht2 hp2]
    obtain ⟨x1, hx1⟩ : ∃ x, x = (a.k == b.k) := ⟨_, rfl⟩
    obtain ⟨x2, hx2⟩ : ∃ x, x = (a.m == b.m) := ⟨_, rfl⟩
    obtain ⟨x3, hx3⟩ : ∃ x, x = (a.b == b.b) := ⟨_, rfl⟩
    simp [Program.fieldsOf, Tryz.underlying24, Op.eqFields, part, g3, run_equalIn_int W 9997 3 .i64 .i64 _ _ Tryz.underlying3, ← hx1, ← hx2, ← hx3]
    cases x1 <;> cases x2 <;> cases x3 <;> simp
  have hg : (Op.equalIn 9999 26 (.agg #[.int .i64 a.ep, .int .i64 a.cn]) (.agg #[.int .i64 b.ep, .int .i64 b.cn])).run Tryz.prog W = .ok ((a.ep == b.ep) && (a.cn == b.cn)) W := by
    rw [run_equalIn_agg W 9998 26 _ _ ht3 hp3]
    obtain ⟨x1, hx1⟩ : ∃ x, x = (a.ep == b.ep) := ⟨_, rfl⟩
    obtain ⟨x2, hx2⟩ : ∃ x, x = (a.cn == b.cn) := ⟨_, rfl⟩
    simp [Program.fieldsOf, Tryz.underlying26, Op.eqFields, part, g3, run_equalIn_int W 9997 3 .i64 .i64 _ _ Tryz.underlying3, ← hx1, ← hx2]
    cases x1 <;> cases x2 <;> simp
  obtain ⟨p2, hp2'⟩ : ∃ p, p = ((a.k == b.k) && (a.m == b.m) && (a.b == b.b)) := ⟨_, rfl⟩
  obtain ⟨p3, hp3'⟩ : ∃ p, p = (a.key == b.key) := ⟨_, rfl⟩
  obtain ⟨p4, hp4'⟩ : ∃ p, p = (a.size == b.size) := ⟨_, rfl⟩
  obtain ⟨p5, hp5'⟩ : ∃ p, p = (a.idx == b.idx) := ⟨_, rfl⟩
  obtain ⟨p6, hp6'⟩ : ∃ p, p = ((a.ep == b.ep) && (a.cn == b.cn)) := ⟨_, rfl⟩
  have hk : (Op.equalIn 9999 9 (.string ⟨a.key.toArray⟩) (.string ⟨b.key.toArray⟩)).run Tryz.prog W = .ok p3 W := by
    rw [run_equalIn_string W 9998 9 _ _ Tryz.underlying9, ByteArray.toList_eq, ByteArray.toList_eq, hp3']
  have hz : (Op.equalIn 9999 3 (.int .i64 a.size) (.int .i64 b.size)).run Tryz.prog W = .ok p4 W := by rw [hp4']; exact run_equalIn_int W 9998 3 .i64 .i64 _ _ Tryz.underlying3
  have hi : (Op.equalIn 9999 3 (.int .i64 a.idx) (.int .i64 b.idx)).run Tryz.prog W = .ok p5 W := by rw [hp5']; exact run_equalIn_int W 9998 3 .i64 .i64 _ _ Tryz.underlying3
  unfold hdEq
  rw [← hp1, ← hp2', ← hp3', ← hp4', ← hp5', ← hp6']
  rw [← hp2'] at hs
  rw [← hp6'] at hg
  clear hp1 hp2' hp3' hp4' hp5' hp6'
  rw [run_equalIn_agg W 9999 28 _ _ ht hp]
  simp [Program.fieldsOf, Tryz.underlying28, Op.eqFields, part, g1, g2, g3, g4, g5, z1, z2, z3, hbb, hs, hk, hz, hi, hg]
  cases p1 <;> cases p2 <;> cases p3 <;> cases p4 <;> cases p5 <;> cases p6 <;> simp
theorem hd_eql (a b : Hd) (ha : a.st.length = 8) (hb : b.st.length = 8) (W : World) : (binOp .eql 28 (hdV a) (hdV b)).run Tryz.prog W = .ok (.bool (hdEq a b)) W := by
  have h := hd_cmp a b ha hb W
  unfold hdV at h ⊢
  rw [run_eql_struct, h]; rfl
theorem hd_neql (a b : Hd) (ha : a.st.length = 8) (hb : b.st.length = 8) (W : World) : (binOp .neq 28 (hdV a) (hdV b)).run Tryz.prog W = .ok (.bool (!hdEq a b)) W := by
  have h := hd_cmp a b ha hb W
  unfold hdV at h ⊢
  rw [run_neq_struct, h]; rfl
def wantB (h want : Hd) : Bool := hdEq { h with size := want.size, ep := want.ep, cn := want.cn } want
set_option maxRecDepth 100000 in
set_option maxHeartbeats 4000000 in
theorem wanted_any (h want : Hd) (h1 : h.st.length = 8) (h2 : want.st.length = 8) (w : World) : Calls Tryz.prog 70 #[hdV h, hdV want] w fun e w' => e = .returned (.bool (wantB h want)) ∧ Below w.heap.size w w' := by
  obtain ⟨a0, a1, a2, a3, a4, a5, a6, a7, hsa⟩ := lab_eight h1
  obtain ⟨b0, b1, b2, b3, b4, b5, b6, b7, hsb⟩ := lab_eight h2
  have e1 : hdV h = .agg #[.int .u8 (a0.toNat : Int), .int .u8 (a1.toNat : Int), .int .u8 (a2.toNat : Int), .int .u8 (a3.toNat : Int), .int .u8 (a4.toNat : Int), .int .u8 (a5.toNat : Int), .int .u8 (a6.toNat : Int), .int .u8 (a7.toNat : Int), .int .i64 h.k, .int .i64 h.m, .int .i64 h.b, .string ⟨h.key.toArray⟩, .int .i64 h.size, .int .i64 h.idx, .int .i64 h.ep, .int .i64 h.cn] := by
    unfold hdV hdCells; rw [hsa]; rfl
  have e2 : hdV want = .agg #[.int .u8 (b0.toNat : Int), .int .u8 (b1.toNat : Int), .int .u8 (b2.toNat : Int), .int .u8 (b3.toNat : Int), .int .u8 (b4.toNat : Int), .int .u8 (b5.toNat : Int), .int .u8 (b6.toNat : Int), .int .u8 (b7.toNat : Int), .int .i64 want.k, .int .i64 want.m, .int .i64 want.b, .string ⟨want.key.toArray⟩, .int .i64 want.size, .int .i64 want.idx, .int .i64 want.ep, .int .i64 want.cn] := by
    unfold hdV hdCells; rw [hsb]; rfl
  have e3 : hdV { h with size := want.size, ep := want.ep, cn := want.cn } = .agg #[.int .u8 (a0.toNat : Int), .int .u8 (a1.toNat : Int), .int .u8 (a2.toNat : Int), .int .u8 (a3.toNat : Int), .int .u8 (a4.toNat : Int), .int .u8 (a5.toNat : Int), .int .u8 (a6.toNat : Int), .int .u8 (a7.toNat : Int), .int .i64 h.k, .int .i64 h.m, .int .i64 h.b, .string ⟨h.key.toArray⟩, .int .i64 want.size, .int .i64 h.idx, .int .i64 want.ep, .int .i64 want.cn] := by
    unfold hdV hdCells; rw [hsa]; rfl
  obtain ⟨C1, hC1⟩ : ∃ C : Array Value, C = #[.int .u8 (a0.toNat : Int), .int .u8 (a1.toNat : Int), .int .u8 (a2.toNat : Int), .int .u8 (a3.toNat : Int), .int .u8 (a4.toNat : Int), .int .u8 (a5.toNat : Int), .int .u8 (a6.toNat : Int), .int .u8 (a7.toNat : Int), .int .i64 h.k, .int .i64 h.m, .int .i64 h.b, .string ⟨h.key.toArray⟩, .int .i64 want.size, .int .i64 h.idx, .int .i64 want.ep, .int .i64 want.cn] := ⟨_, rfl⟩
  obtain ⟨C2, hC2⟩ : ∃ C : Array Value, C = #[.int .u8 (b0.toNat : Int), .int .u8 (b1.toNat : Int), .int .u8 (b2.toNat : Int), .int .u8 (b3.toNat : Int), .int .u8 (b4.toNat : Int), .int .u8 (b5.toNat : Int), .int .u8 (b6.toNat : Int), .int .u8 (b7.toNat : Int), .int .i64 want.k, .int .i64 want.m, .int .i64 want.b, .string ⟨want.key.toArray⟩, .int .i64 want.size, .int .i64 want.idx, .int .i64 want.ep, .int .i64 want.cn] := ⟨_, rfl⟩
  obtain ⟨r, hr⟩ : ∃ r, r = wantB h want := ⟨_, rfl⟩
  have HQ : Hid (∀ W : World, (binOp .eql 28 (.agg C1) (.agg C2)).run Tryz.prog W = .ok (.bool r) W) := Lib.hid fun W => by
    have := hd_eql { h with size := want.size, ep := want.ep, cn := want.cn } want h1 h2 W
    rw [e2, e3] at this
    rw [hC1, hC2, hr]; exact this
  have HC1 := Lib.hid hC1
  have HC2 := Lib.hid hC2
  have HZ : Hid (C1.size = 16 ∧ C2.size = 16) := Lib.hid ⟨by rw [hC1]; rfl, by rw [hC2]; rfl⟩
  have hgd : Tryz.prog.eqGuardType Tryz.prog.depth 28 = false := by kernel_rfl
  rw [e1, e2, ← hr]
  clear e1 e2 e3 hsa hsb hr hC1 hC2
  go_enter Tryz.func70, Tryz.ntmps70
  go_wp2_with fail
  go_region
  refine exit_world fun X hX => ?_
  have HK1 : Hid (Blk X w.heap.size 28 C1) := Lib.hid (by rw [hX, HC1.out]; exact ((Blk.new w _ _).alloc _).drew)
  have HK2 : Hid (Blk X (w.heap.size + 1) 28 C2) := Lib.hid (by rw [hX, HC2.out]; exact (blk_last _ _ _ _ (by rw [alloc_size])).drew)
  have HB : Hid (Below w.heap.size w X) := Lib.hid (by rw [hX]; exact below_drew1 (((Below.refl _ w).alloc (Nat.le_refl _) _).alloc (by rw [alloc_size]; omega) _))
  have hq := HQ.out
  clear hX
  go_wp2_with (first
    | (refine wpList_load_at rfl 28 _ rfl ⟨w.heap.size, 0, none⟩ rfl (.agg C1) (load_head HK1.out HZ.out.1) ?_)
    | (refine wpList_load_at rfl 28 _ rfl ⟨w.heap.size + 1, 0, none⟩ rfl (.agg C2) (load_head HK2.out HZ.out.2) ?_))
  go_ret
  exact ⟨rfl, HB.out⟩
end Go.Proofs.YtcbebefdbdppdaaGreat
namespace Go.Proofs.YtcbebefdbdppdaaGreat
open Go.RowKit Go.Maps
theorem results_cell1 {fn : Func} {t a : Nat} (h : fn.results = #[.cell a t]) (tmps : Array Value) (ad : Addr) (ha : tmps.getD a undef = .pointer (some ad)) (v : Value) (P : Program) (w : World) (hl : (loadVar t ad).run P w = .ok v w) :
    (results fn tmps).run P w = .ok v w := by
  have ha' : tmps[a]?.getD undef = .pointer (some ad) := by simpa using ha
  simp [results, h, ha', asAddr, hl]
theorem parseH_st (bs : List UInt8) : (parseH bs).st.length = 8 := by
  unfold parseH
  split
  · rename_i h
    have h0 : Hd.openE bs = 0 := by
      unfold parseE at h
      split at h
      · exact h
      · rename_i h1
        by_cases e : Hd.openE bs = 0
        · exact e
        · exact absurd e h1
    exact (open_fixed h0).2.2.2.2.2
  · rfl
def seenS (CS : Array Value) : Array Value := (Value.int .i64 2 :: (CS.toList ++ [Value.int .i64 0])).toArray
theorem build17 (v0 v1 v2 v3 v4 v5 v6 v7 v8 v9 v10 v11 v12 v13 v14 v15 v16 : Value) (W : World) : (Instr.build 57 #[(0, .int .i64 2), (1, .agg #[v0, v1, v2, v3, v4, v5, v6, v7, v8, v9, v10, v11, v12, v13, v14, v15, v16])]).run Tryz.prog W = .ok (.agg (seenS #[v0, v1, v2, v3, v4, v5, v6, v7, v8, v9, v10, v11, v12, v13, v14, v15, v16])) W := by kernel_rfl
theorem build_seen {CS : Array Value} (h : CS.size = 17) (W : World) : (Instr.build 57 #[(0, .int .i64 2), (1, .agg CS)]).run Tryz.prog W = .ok (.agg (seenS CS)) W := by
  obtain ⟨l⟩ := CS
  rw [List.size_toArray] at h
  match l, h with
  | [v0, v1, v2, v3, v4, v5, v6, v7, v8, v9, v10, v11, v12, v13, v14, v15, v16], _ => exact build17 _ _ _ _ _ _ _ _ _ _ _ _ _ _ _ _ _ W
theorem seenS_size {CS : Array Value} (h : CS.size = 17) : (seenS CS).size = 19 := by
  unfold seenS
  rw [List.size_toArray, List.length_cons, List.length_append, Array.length_toList, h]; rfl
theorem seenS_one {CS : Array Value} (h : ∀ v ∈ CS.toList, v.oneCell' = true) : ∀ v ∈ (seenS CS).toList, v.oneCell' = true := by
  intro v hv
  unfold seenS at hv
  rw [List.toList_toArray] at hv
  rcases List.mem_cons.1 hv with h1 | h1
  · rw [h1]; rfl
  · rcases List.mem_append.1 h1 with h2 | h2
    · exact h v h2
    · rw [List.mem_singleton] at h2; rw [h2]; rfl
def LookAt (w : World) (b : Nat) (ds : List UInt8) (x : Int) (want : Hd) (v : Value) : Prop :=
  if x = 0 ∧ parseE ds = 0 ∧ wantB (Hd.ofB ds) want = true then ∃ sv, v = .agg (seenS ((hdCells (Hd.ofB ds)).push sv)) ∧ BlkOwn w b sv ((cutOf ds).map (·.1))
  else v = .agg (seen0 (seenK x) (seenE x))
theorem hd_key16 {h : Hd} (hs : h.st.length = 8) : (hdCells h)[11]? = some (strV h.key) := by
  obtain ⟨a0, a1, a2, a3, a4, a5, a6, a7, hst⟩ := lab_eight hs
  unfold hdCells
  rw [hst]
  rfl
set_option maxRecDepth 100000 in
set_option maxHeartbeats 8000000 in
theorem blook_any (q p : Nat) (X : Wnd) (S : Drv) (F : Nat → Prop) (want : Hd) (hst : want.st.length = 8) (h1 : 1 ≤ want.key.length) (h2 : want.key.length ≤ 255) (w : World) (hd : WD w q p X S F) (hF : ∀ k, F k → k < w.heap.size) (hX : X.Ok) (hS : S.Small) (Y : Wnd) (ds : List UInt8) (x : Int) (hy : wread X (S.read (objN want.key)) = (Y, ds, x)) (hds : ds.length ≤ 1099511627776) :
    Calls Tryz.prog 20 #[.iface 36 (.pointer (some ⟨q, 0, none⟩)), hdV want] w fun e w' => ∃ v, e = .returned v ∧ LookAt w' w.heap.size ds x want v ∧ WD w' q p Y S F ∧ Touch F w w' := by
  unfold hdV
  obtain ⟨CW, hCW⟩ : ∃ C, C = hdCells want := ⟨_, rfl⟩
  have HKY : Hid (CW[11]? = some (strV want.key)) := Lib.hid (by rw [hCW]; exact hd_key16 hst)
  have HCW : Hid (CW.size = 16) := Lib.hid (by rw [hCW]; exact hdCells_size hst)
  rw [← hCW]
  obtain ⟨W0, hW0⟩ : ∃ W0, W0 = (w.alloc (.cells CW 28)).alloc (.cells (seen0 0 0) 57) := ⟨_, rfl⟩
  have HB0 : Hid (Below w.heap.size w W0) := Lib.hid (by rw [hW0]; exact ((Below.refl _ w).alloc (Nat.le_refl _) _).alloc (by rw [alloc_size]; omega) _)
  have HK0 : Hid (Blk W0 w.heap.size 28 CW) := Lib.hid (by rw [hW0]; exact (Blk.new w _ _).alloc _)
  have HZ0 : Hid (Blk W0 (w.heap.size + 1) 57 (seen0 0 0)) := Lib.hid (by rw [hW0]; exact blk_last _ _ _ _ (by rw [alloc_size]))
  have HNB : Hid (¬F w.heap.size ∧ ¬F (w.heap.size + 1)) := Lib.hid ⟨fun hk => Nat.lt_irrefl _ (hF _ hk), fun hk => by have := hF _ hk; omega⟩
  have HRD := Lib.hid (bread_any q p X S F want.key h1 h2 W0 (hd.below HB0.out) (fun k hk => Nat.lt_of_lt_of_le (hF k hk) HB0.out.size) hX hS Y ds x hy)
  have HDS := Lib.hid hds
  have HCE := Lib.hid hCW
  have HST := Lib.hid hst
  obtain ⟨kv, hkv⟩ : ∃ kv, kv = strV want.key := ⟨_, rfl⟩
  rw [← hkv] at HKY HRD
  have y11 : W0.cell? ⟨w.heap.size, 11, none⟩ = some kv := (HK0.out.cell 11).trans HKY.out
  have HEQ := Lib.hid hW0
  have hk0 : CW[11]? = some kv := HKY.out
  clear hkv hCW h1 h2 hd hF hX hS hy hds hst hW0 y11
  go_enter Tryz.func20, Tryz.ntmps20
  go_wp2_with fail
  refine calls_world fun X0 hX0 => ?_
  obtain rfl : X0 = W0 := by rw [hX0, HEQ.out]; rfl
  clear hX0 hk0
  refine HRD.out.mono ?_
  rintro e w1 ⟨v, rfl, ho1, hd1, ht1⟩
  have HO1 := Lib.hid ho1
  have HD1 := Lib.hid hd1
  have HK1 := Lib.hid (HK0.out.touch ht1 HNB.out.1)
  have HZ1 := Lib.hid (HZ0.out.touch ht1 HNB.out.2)
  have HT1 : Hid (Touch F w w1) := Lib.hid ((Touch.of_below HB0.out).trans (ht1.mono fun k _ hk => .inl hk))
  have hz1 : w.heap.size + 1 < w1.heap.size := HZ1.out.lt
  clear ho1 hd1 ht1
  obtain ⟨W1, hr1, hk1, ht1, _⟩ := store_seen (w := w1.alloc (.cells (seen0 0 0) 57)) (R := w1.heap.size) (CK := seen0 (seenK x) (seenE x)) (Blk.new _ _ _) rfl rfl (seen0_one _ _)
  have HB1 : Hid (Below w1.heap.size w1 W1) := Lib.hid (((Below.refl _ w1).alloc (Nat.le_refl _) _).trans (ht1.below (by rw [alloc_size]; exact Nat.le_succ _) (fun k hk => Nat.le_of_eq hk.symm)))
  have HS6 := Lib.hid hk1
  have HEND : Hid (∀ w5, Below w1.heap.size w1 w5 → ∀ CK : Array Value, CK.size = 19 → (∀ v ∈ CK.toList, v.oneCell' = true) → ∃ w6, (storeVar 57 ⟨w.heap.size + 1, 0, none⟩ (.agg CK)).run Tryz.prog w5 = .ok () w6 ∧ Blk w6 (w.heap.size + 1) 57 CK ∧ WD w6 q p Y S F ∧ Touch F w w6 ∧ Touch (· = w.heap.size + 1) w5 w6) := Lib.hid fun w5 hb CK hc ho => by
    obtain ⟨w6, hr, hk, ht, _⟩ := store_seen (HZ1.out.below hb HZ1.out.lt) rfl hc ho
    refine ⟨w6, hr, hk, (HD1.out.below hb).keep ht (fun i hi e => HNB.out.2 (e ▸ hi)), (HT1.out.trans (Touch.of_below hb)).trans (ht.mono fun i _ hi => .inr (by rw [hi]; exact ⟨Nat.le_succ _, Nat.lt_of_lt_of_le hz1 hb.size⟩)), ht⟩
  clear hk1 ht1
  by_cases hx : x = 0
  case' neg =>
    have hk3 : (seenK x != 3) = true := by
      unfold seenK
      rw [if_neg hx]
      split <;> rfl
    have HLK : Hid (∀ w6, LookAt w6 w.heap.size ds x want (.agg (seen0 (seenK x) (seenE x)))) := Lib.hid fun w6 => by unfold LookAt; rw [if_neg (fun h => hx h.1)]
    have s6 : W1.cell? ⟨w1.heap.size, 0, none⟩ = some (.int .i64 (seenK x)) := HS6.out.cell 0
    obtain ⟨w6, hr6, hk6, hd6, ht6, _⟩ := HEND.out W1 HB1.out (seen0 (seenK x) (seenE x)) rfl (seen0_one _ _)
    obtain ⟨sk, hsk⟩ : ∃ k, k = seenK x := ⟨_, rfl⟩
    obtain ⟨se, hse⟩ : ∃ k, k = seenE x := ⟨_, rfl⟩
    rw [← hsk] at hk3 s6
    rw [← hsk, ← hse] at HLK hr1 HS6 hr6 hk6 ⊢
    clear hx hsk hse
    go_wp2_with (first
      | (refine wpList_store_at rfl 57 _ _ rfl ⟨w1.heap.size, 0, none⟩ rfl (.agg (seen0 sk se)) rfl W1 hr1 ?_)
      | (refine wpList_load_at rfl 57 _ rfl ⟨w1.heap.size, 0, none⟩ rfl (.agg (seen0 sk se)) (load_seen HS6.out rfl) ?_)
      | (refine wpList_store_at rfl 57 _ _ rfl ⟨w.heap.size + 1, 0, none⟩ rfl (.agg (seen0 sk se)) rfl w6 hr6 ?_))
    exact bodyPost_ret (v := .agg (seen0 sk se)) (results_cell1 Tryz.results20 _ ⟨w.heap.size + 1, 0, none⟩ rfl (.agg (seen0 sk se)) _ _ (load_seen hk6 rfl)) rfl ⟨_, rfl, HLK.out _, hd6, ht6⟩
  case' pos =>
    subst hx
    have s6 : W1.cell? ⟨w1.heap.size, 0, none⟩ = some (.int .i64 3) := HS6.out.cell 0
    have HOW := Lib.hid (HO1.out rfl)
    obtain ⟨A, c, rfl, _⟩ := own_shape HOW.out
    have hz0 : w.heap.size ≤ w1.heap.size := Nat.le_trans (Nat.le_succ _) (Nat.le_of_lt hz1)
    have HPA := Lib.hid (fparse_any A ds.length c _ ds W1 (ownsRow_below HOW.out HB1.out) HDS.out)
    have HKW := Lib.hid (HK1.out.below HB1.out HK1.out.lt)
    have e3 : seen0 (seenK 0) (seenE 0) = seen0 3 0 := rfl
    rw [e3] at hr1 HS6 ⊢
    clear e3
    go_wp2_with (refine wpList_store_at rfl 57 _ _ rfl ⟨w1.heap.size, 0, none⟩ rfl (.agg (seen0 3 0)) rfl W1 hr1 ?_)
    refine HPA.out.mono ?_
    rintro e w2 ⟨sv, rfl, hbo2, hb2⟩
    have hcp := hdCells_size (parseH_st ds)
    have hcp1 := hd_one (parseH ds)
    obtain ⟨vs, hvs, _⟩ := hbo2.row
    obtain ⟨sa, sc, hsv, _⟩ := own_shape hvs
    clear hvs
    unfold shV
    obtain ⟨CH, hCH⟩ : ∃ C, C = hdCells (parseH ds) := ⟨_, rfl⟩
    rw [← hCH] at hcp hcp1 ⊢
    have hps : (CH.push sv).size = 17 := by rw [Array.size_push, hcp]
    have hpo : ∀ v ∈ (CH.push sv).toList, v.oneCell' = true := by rw [hsv]; exact push_one hcp1
    clear hsv
    obtain ⟨W3, hr3, hk3, ht3, _⟩ := store_sh (w := w2.alloc (.cells zeroSh 31)) (R := w2.heap.size) (CK := CH.push sv) (Blk.new _ _ _) rfl hps hpo
    have HB3' : Hid (Below w2.heap.size w2 W3) := Lib.hid (((Below.refl _ w2).alloc (Nat.le_refl _) _).trans (ht3.below (by rw [alloc_size]; exact Nat.le_succ _) (fun k hk => Nat.le_of_eq hk.symm)))
    have hz2 : w1.heap.size ≤ w2.heap.size := Nat.le_trans HB1.out.size hb2.size
    have HB2 : Hid (Below w1.heap.size w1 w2) := Lib.hid (HB1.out.trans (hb2.mono HB1.out.size))
    have HB3 : Hid (Below w1.heap.size w1 W3) := Lib.hid (HB2.out.trans (HB3'.out.mono hz2))
    have HS8 := Lib.hid ((HS6.out.below hb2 HS6.out.lt).below HB3'.out (Nat.lt_of_lt_of_le HS6.out.lt hb2.size))
    have HK8 := Lib.hid hk3
    have HW8 := Lib.hid ((HKW.out.below hb2 HKW.out.lt).below HB3'.out (Nat.lt_of_lt_of_le HKW.out.lt hb2.size))
    have HBO := Lib.hid ((hbo2.below HB3'.out).base (Nat.le_trans hz0 HB1.out.size))
    have HPS := Lib.hid hps
    have HPO := Lib.hid hpo
    have HCP := Lib.hid hcp
    have HCH := Lib.hid hCH
    clear hb2 hk3 ht3 hbo2 hcp hcp1 hCH hps hpo s6
    have HSP : Hid (∀ w5, Below w1.heap.size w1 w5 → (parseE ds = 0 → wantB (Hd.ofB ds) want = false) → ∃ w6, (storeVar 57 ⟨w.heap.size + 1, 0, none⟩ (.agg (seen0 3 0))).run Tryz.prog w5 = .ok () w6 ∧ Blk w6 (w.heap.size + 1) 57 (seen0 3 0) ∧ LookAt w6 w.heap.size ds 0 want (.agg (seen0 3 0)) ∧ WD w6 q p Y S F ∧ Touch F w w6) := Lib.hid fun w5 hb hn => by
      obtain ⟨w6, hr, hk, hd, ht, _⟩ := HEND.out w5 hb (seen0 3 0) rfl (seen0_one _ _)
      refine ⟨w6, hr, hk, ?_, hd, ht⟩
      unfold LookAt
      rw [if_neg (fun h => by rw [hn h.2.1] at h; exact absurd h.2.2 (by decide))]
      rfl
    by_cases hpe : parseE ds = 0
    case' neg =>
      obtain ⟨w6, hr6, hk6, hl6, hd6, ht6⟩ := HSP.out W3 HB3.out (fun h => absurd h hpe)
      have hpe2 : (parseE ds == 0) = false := beq_eq_false_iff_ne.2 hpe
      obtain ⟨pe, hpe3⟩ : ∃ pe, pe = parseE ds := ⟨_, rfl⟩
      rw [← hpe3] at hpe2 ⊢
      clear hpe hpe3
      go_wp2_with (first
        | (refine wpList_store_at rfl 31 _ _ rfl ⟨w2.heap.size, 0, none⟩ rfl (.agg (CH.push sv)) rfl W3 hr3 ?_)
        | (refine wpList_load_at rfl 57 _ rfl ⟨w1.heap.size, 0, none⟩ rfl (.agg (seen0 3 0)) (load_seen HS8.out rfl) ?_)
        | (refine wpList_store_at rfl 57 _ _ rfl ⟨w.heap.size + 1, 0, none⟩ rfl (.agg (seen0 3 0)) rfl w6 hr6 ?_))
      exact bodyPost_ret (v := .agg (seen0 3 0)) (results_cell1 Tryz.results20 _ ⟨w.heap.size + 1, 0, none⟩ rfl (.agg (seen0 3 0)) _ _ (load_seen hk6 rfl)) rfl ⟨_, rfl, hl6, hd6, ht6⟩
    case' pos =>
      have HPH : Hid (parseH ds = Hd.ofB ds ∧ parseB ds = (cutOf ds).map (·.1)) := Lib.hid ⟨if_pos hpe, if_pos hpe⟩
      have HWN := Lib.hid (wanted_any (Hd.ofB ds) want (by rw [← HPH.out.1]; exact parseH_st ds) HST.out W3)
      unfold hdV at HWN
      rw [← HPH.out.1, ← HCH.out, ← HCE.out] at HWN
      obtain ⟨r, hr⟩ : ∃ r, r = wantB (parseH ds) want := ⟨_, rfl⟩
      rw [← hr] at HWN
      have HR := Lib.hid hr
      have HPE0 := Lib.hid hpe
      rw [hpe]
      clear hpe hr
      go_wp2_with (first
        | (refine wpList_store_at rfl 31 _ _ rfl ⟨w2.heap.size, 0, none⟩ rfl (.agg (CH.push sv)) rfl W3 hr3 ?_)
        | (refine wpList_load_if 28 _ rfl rfl ⟨w2.heap.size, 0, none⟩ rfl (.agg CH) (load_head_in HK8.out HCP.out) ?_)
        | (refine wpList_load_if 28 _ rfl rfl ⟨w.heap.size, 0, none⟩ rfl (.agg CW) (load_head HW8.out HCW.out) ?_))
      refine HWN.out.mono ?_
      rintro e w4 ⟨rfl, hb4⟩
      have hz3 : w1.heap.size ≤ W3.heap.size := HB3.out.size
      have HB4 : Hid (Below w1.heap.size w1 w4) := Lib.hid (HB3.out.trans (hb4.mono hz3))
      have HK9 := Lib.hid (HK8.out.below hb4 HK8.out.lt)
      have HS9 := Lib.hid (HS8.out.below hb4 HS8.out.lt)
      have HBO9 := Lib.hid (HBO.out.below hb4)
      clear hb4 hr3
      by_cases hrr : r = true
      case' pos =>
        subst hrr
        obtain ⟨w6, hr6, hk6, hd6, ht6, htz⟩ := HEND.out w4 HB4.out (seenS (CH.push sv)) (seenS_size HPS.out) (seenS_one HPO.out)
        have HZ4 := Lib.hid (HZ1.out.below HB4.out HZ1.out.lt)
        have HLK : Hid (LookAt w6 w.heap.size ds 0 want (.agg (seenS (CH.push sv)))) := Lib.hid (by
          unfold LookAt
          rw [if_pos ⟨rfl, HPE0.out, by rw [← HPH.out.1]; exact HR.out.symm⟩]
          refine ⟨sv, by rw [← HPH.out.1, HCH.out], ?_⟩
          rw [← HPH.out.2]
          exact HBO9.out.keep fun k t cs hk ht => htz.block k hk.lt fun e => by
            subst e
            have h1 := HZ4.out
            unfold Blk at hk h1
            rw [hk] at h1
            injection h1 with h1
            injection h1 with _ h1
            rcases ht with e | e <;> (rw [e] at h1; cases h1))
        clear htz
        go_wp2_with (first
          | (refine wpList_load_at rfl 31 _ rfl ⟨w2.heap.size, 0, none⟩ rfl (.agg (CH.push sv)) (load_sh HK9.out HPS.out) ?_)
          | (refine wpList_build_at rfl 57 _ rfl #[(0, .int .i64 2), (1, .agg (CH.push sv))] (by simp [Act.eval]; rfl) (.agg (seenS (CH.push sv))) (build_seen HPS.out _) ?_)
          | (refine wpList_store_at rfl 57 _ _ rfl ⟨w.heap.size + 1, 0, none⟩ rfl (.agg (seenS (CH.push sv))) rfl w6 hr6 ?_))
        exact bodyPost_ret (v := .agg (seenS (CH.push sv))) (results_cell1 Tryz.results20 _ ⟨w.heap.size + 1, 0, none⟩ rfl (.agg (seenS (CH.push sv))) _ _ (load_seen hk6 (seenS_size HPS.out))) rfl ⟨_, rfl, HLK.out, hd6, ht6⟩
      case' neg =>
        obtain rfl : r = false := by simpa using hrr
        obtain ⟨w6, hr6, hk6, hl6, hd6, ht6⟩ := HSP.out w4 HB4.out (fun _ => by rw [← HPH.out.1]; exact HR.out.symm)
        go_wp2_with (first
          | (refine wpList_load_at rfl 57 _ rfl ⟨w1.heap.size, 0, none⟩ rfl (.agg (seen0 3 0)) (load_seen HS9.out rfl) ?_)
          | (refine wpList_store_at rfl 57 _ _ rfl ⟨w.heap.size + 1, 0, none⟩ rfl (.agg (seen0 3 0)) rfl w6 hr6 ?_))
        exact bodyPost_ret (v := .agg (seen0 3 0)) (results_cell1 Tryz.results20 _ ⟨w.heap.size + 1, 0, none⟩ rfl (.agg (seen0 3 0)) _ _ (load_seen hk6 rfl)) rfl ⟨_, rfl, hl6, hd6, ht6⟩
end Go.Proofs.YtcbebefdbdppdaaGreat
