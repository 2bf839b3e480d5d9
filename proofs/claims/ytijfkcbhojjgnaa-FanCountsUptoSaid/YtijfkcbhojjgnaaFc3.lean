/- Contracts for FanCounts, structs of a number and the text x. -/
import Derived.Test.YtijfkcbhojjgnaaFc2
namespace Go.Proofs.Ytijfkcbhojjgnaa.fanCounts
open Go.RowKit

def tx : ByteArray := ⟨#[120]⟩
/-- A list of such structs: it is empty, or a row of cells. -/
def IsWords (w : World) (a : Option Addr) (len : Nat) (zs : List Int) : Prop :=
  (len = 0 ∧ zs = []) ∨
  ∃ b off, a = some ⟨b, off, none⟩ ∧ zs.length = len ∧ ∀ i, i < len → w.cell? ⟨b, off + i * 2, none⟩ = some (EI (zs.getD i 0)) ∧ w.cell? ⟨b, off + i * 2 + 1, none⟩ = some (.string tx)

set_option maxHeartbeats 1000000 in
theorem wcount_row (b off len cap : Nat) (zs : List Int) (x : Int) (w : World) (hm : len ≤ 1048576) (hz : zs.length = len)
    (hc : ∀ i, i < len → w.cell? ⟨b, off + i * 2, none⟩ = some (EI (zs.getD i 0)) ∧ w.cell? ⟨b, off + i * 2 + 1, none⟩ = some (.string tx)) :
    Calls Try.prog 14 #[.slice (some ⟨b, off, none⟩) len cap, .agg #[.int .i64 x, .string tx]] w fun e w' => e = .returned (.int .i64 (cnt zs x)) ∧ Below w.heap.size w w' := by
  have HZ := Lib.hid hz; clear hz
  have HC := Lib.hid hc; clear hc
  go_enter Try.func14, Try.ntmps14
  go_wp2
  go_loopw [5, 10] (fun n i wr => ∃ k : Nat, k ≤ len ∧ i = .int .i64 k ∧ n = .int .i64 (cnt (zs.take k) x) ∧ Below w.heap.size w wr ∧ w.heap.size < wr.heap.size ∧
      wr.cell? ⟨w.heap.size, 0, none⟩ = some (.int .i64 x) ∧ wr.cell? ⟨w.heap.size, 1, none⟩ = some (.string tx)) (fun _ i _ => len - (intOf i).toNat)
  case atStart => exact ⟨0, Nat.zero_le _, rfl, rfl, (Below.refl _ _).alloc (Nat.le_refl _) _, by simp, by simp, by simp⟩
  case round =>
    obtain ⟨k, hk, rfl, rfl, hb, hsz, hx0, hx1⟩ := hrel
    have hl := cnt_take_le zs k x
    by_cases hlt : k < len
    · have g1 := (HC.out k hlt).1
      have g2 := (HC.out k hlt).2
      have g1' := (hb.cell (World.block_lt_of_cell? _ _ g1)).trans g1
      have g2' := (hb.cell (World.block_lt_of_cell? _ _ g2)).trans g2
      clear g1 g2
      have HB := Lib.hid hb; clear hb
      by_cases hf : zs[k]?.getD 0 = x
      · have HS := Lib.hid (show cnt (zs.take (k + 1)) x = cnt (zs.take k) x + 1 from by rw [cnt_take_succ zs k x (by rw [HZ.out]; exact hlt), if_pos (by rw [List.getD, hf]; simp)])
        go_wp2
        go_roundw
        case rel => exact ⟨k + 1, by omega, by go_num, by rw [HS.out]; rfl, HB.out.alloc HB.out.size _, by simp; omega, by rw [World.cell?_alloc_lt _ _ _ hsz]; exact hx0, by rw [World.cell?_alloc_lt _ _ _ hsz]; exact hx1⟩
        case measure => simp [intOf]; omega
      · have HS := Lib.hid (show cnt (zs.take (k + 1)) x = cnt (zs.take k) x from by rw [cnt_take_succ zs k x (by rw [HZ.out]; exact hlt), if_neg (by rw [List.getD]; simpa using hf), Nat.add_zero])
        go_wp2
        go_roundw
        case rel => exact ⟨k + 1, by omega, by go_num, by rw [HS.out], HB.out.alloc HB.out.size _, by simp; omega, by rw [World.cell?_alloc_lt _ _ _ hsz]; exact hx0, by rw [World.cell?_alloc_lt _ _ _ hsz]; exact hx1⟩
        case measure => simp [intOf]; omega
    · go_wp2
      go_ret
      exact ⟨by rw [List.take_of_length_le (by rw [HZ.out]; omega)]; rfl, hb⟩

theorem wcount_nil (a : Option Addr) (cap : Nat) (x : Int) (w : World) :
    Calls Try.prog 14 #[.slice a 0 cap, .agg #[.int .i64 x, .string tx]] w fun e w' => e = .returned (.int .i64 (cnt [] x)) ∧ Below w.heap.size w w' := by
  go_enter Try.func14, Try.ntmps14
  go_wp2
  refine wp_loop_rounds 1 ?_
  rw [rounds_succ]
  go_wp2
  go_ret
  exact ⟨rfl, (Below.refl _ _).alloc (Nat.le_refl _) _⟩

theorem wcount_any (a : Option Addr) (len cap : Nat) (zs : List Int) (x : Int) (w : World) (hm : len ≤ 1048576) (h : IsWords w a len zs) :
    Calls Try.prog 14 #[.slice a len cap, .agg #[.int .i64 x, .string tx]] w fun e w' => e = .returned (.int .i64 (cnt zs x)) ∧ Below w.heap.size w w' := by
  rcases h with ⟨rfl, rfl⟩ | ⟨b, off, rfl, hz, hc⟩
  · exact wcount_nil a cap x w
  · exact wcount_row b off len cap zs x w hm hz hc

theorem IsWords.below {w w' : World} {a : Option Addr} {len B : Nat} {zs : List Int} (h : IsWords w a len zs) (hb : Below B w w') (hB : w.heap.size ≤ B) : IsWords w' a len zs := by
  rcases h with h | ⟨b, off, rfl, hz, hc⟩
  · exact .inl h
  · refine .inr ⟨b, off, rfl, hz, fun i hi => ?_⟩
    obtain ⟨h1, h2⟩ := hc i hi
    have hl := World.block_lt_of_cell? _ _ h1
    rw [hb.cell (p := ⟨b, off + i * 2, none⟩) (Nat.lt_of_lt_of_le hl hB), hb.cell (p := ⟨b, off + i * 2 + 1, none⟩) (Nat.lt_of_lt_of_le hl hB)]
    exact ⟨h1, h2⟩

theorem bcell {W w1 : World} (hb : Below W.heap.size W w1) : (∀ b o, b < W.heap.size → w1.cell? ⟨b, o, none⟩ = W.cell? ⟨b, o, none⟩) ∧ (∀ b o, b < W.heap.size → w1.frozen? ⟨b, o, none⟩ = W.frozen? ⟨b, o, none⟩) :=
  ⟨fun b o h => hb.cell (p := ⟨b, o, none⟩) h, fun b o h => hb.frozen (p := ⟨b, o, none⟩) h⟩

/-- The text of the best of the first k. -/
def wtx (k : Nat) : ByteArray := if k = 0 then ⟨#[]⟩ else tx

set_option maxHeartbeats 1000000 in
theorem wmost_row (b off len cap : Nat) (zs : List Int) (w : World) (hm : len ≤ 1048576) (hz : zs.length = len)
    (hc : ∀ i, i < len → w.cell? ⟨b, off + i * 2, none⟩ = some (EI (zs.getD i 0)) ∧ w.cell? ⟨b, off + i * 2 + 1, none⟩ = some (.string tx)) :
    Calls Try.prog 13 #[.slice (some ⟨b, off, none⟩) len cap] w fun e w' => e = .returned (.tuple #[.agg #[.int .i64 (most zs), .string (wtx len)], .int .i64 (times zs)]) ∧ Below w.heap.size w w' := by
  have HR : Hid (IsWords w (some ⟨b, off, none⟩) len zs) := Lib.hid (Or.inr ⟨b, off, rfl, hz, hc⟩)
  have HZ := Lib.hid hz; clear hz
  have HC := Lib.hid hc; clear hc
  go_enter Try.func13, Try.ntmps13
  go_wp2
  go_loopw [5, 11] (fun q i wr => ∃ k : Nat, k ≤ len ∧ i = .int .i64 k ∧ q = .int .i64 (mto zs k).2 ∧ Below w.heap.size w wr ∧ w.heap.size + 1 < wr.heap.size ∧
      wr.cell? ⟨w.heap.size, 0, none⟩ = some (.int .i64 0) ∧ wr.cell? ⟨w.heap.size, 1, none⟩ = some (.string ⟨#[]⟩) ∧ wr.frozen? ⟨w.heap.size, 0, none⟩ = false ∧ wr.frozen? ⟨w.heap.size, 1, none⟩ = false ∧
      wr.cell? ⟨w.heap.size + 1, 0, none⟩ = some (.int .i64 (mto zs k).1) ∧ wr.cell? ⟨w.heap.size + 1, 1, none⟩ = some (.string (wtx k)) ∧ wr.frozen? ⟨w.heap.size + 1, 0, none⟩ = false ∧ wr.frozen? ⟨w.heap.size + 1, 1, none⟩ = false)
    (fun _ i _ => len - (intOf i).toNat)
  case atStart => exact ⟨0, Nat.zero_le _, rfl, rfl, ((Below.refl _ _).alloc (Nat.le_refl _) _).alloc (by simp) _, by simp, by simp, by simp, by simp, by simp, by simp [mto], by simp [wtx], by simp, by simp⟩
  case round =>
    obtain ⟨k, hk, rfl, rfl, hb, hsz, hr0, hr1, fr0, fr1, hb0, hb1, fb0, fb1⟩ := hrel
    have hbd := mto_bd zs k
    rw [HZ.out] at hbd
    by_cases hlt : k < len
    · have g1 := (HC.out k hlt).1
      have g2 := (HC.out k hlt).2
      have g1' := (hb.cell (World.block_lt_of_cell? _ _ g1)).trans g1
      have g2' := (hb.cell (World.block_lt_of_cell? _ _ g2)).trans g2
      clear g1 g2
      have HB := Lib.hid hb; clear hb
      have hcl := cnt_le zs (zs.getD k 0)
      rw [HZ.out] at hcl
      have HS := Lib.hid (mto_succ zs k (by rw [HZ.out]; exact hlt))
      go_wp2_with fail
      have hbx := HB.out.alloc HB.out.size (Obj.cells #[Value.int IntKind.i64 (zs[k]?.getD 0), Value.string tx] 28)
      refine (wcount_any _ _ _ zs _ _ hm (HR.out.below hbx (Nat.le_refl _))).mono ?_
      rintro e w1 ⟨rfl, hb2⟩
      obtain ⟨c2, f2⟩ := bcell hb2
      have hs2 : wr.heap.size + 1 ≤ w1.heap.size := by have := hb2.size; simpa using this
      have HB3 := Lib.hid (hbx.trans (hb2.mono (Nat.le_trans HB.out.size (by simp)))); clear hbx hb2
      simp only [World.size_alloc] at c2 f2
      have n0 : w1.cell? ⟨wr.heap.size, 0, none⟩ = some (.int .i64 (zs[k]?.getD 0)) := by rw [c2 _ _ (by omega)]; simp
      have n1 : w1.cell? ⟨wr.heap.size, 1, none⟩ = some (.string tx) := by rw [c2 _ _ (by omega)]; simp
      have old : ∀ b o, b < wr.heap.size → w1.cell? ⟨b, o, none⟩ = wr.cell? ⟨b, o, none⟩ := fun b o h => by rw [c2 _ _ (by omega), World.cell?_alloc_lt _ _ _ h]
      have oldf : ∀ b o, b < wr.heap.size → w1.frozen? ⟨b, o, none⟩ = wr.frozen? ⟨b, o, none⟩ := fun b o h => by rw [f2 _ _ (by omega), World.frozen?_alloc_old _ _ _ (by simp only; omega)]
      clear c2 f2
      have hr0' := (old _ 0 (by omega)).trans hr0
      have hr1' := (old _ 1 (by omega)).trans hr1
      have fr0' := (oldf _ 0 (by omega)).trans fr0
      have fr1' := (oldf _ 1 (by omega)).trans fr1
      have hb0' := (old _ 0 hsz).trans hb0
      have hb1' := (old _ 1 hsz).trans hb1
      have fb0' := (oldf _ 0 hsz).trans fb0
      have fb1' := (oldf _ 1 hsz).trans fb1
      clear old oldf hr0 hr1 fr0 fr1 hb0 hb1 fb0 fb1 g1' g2'
      go_wp2
      · have hq : (mto zs k).2 < (cnt zs (zs.getD k 0) : Int) := by assumption
        have HS2 : Hid (mto zs (k + 1) = (zs.getD k 0, (cnt zs (zs.getD k 0) : Int))) := by rw [HS.out, mstep, if_pos hq]; exact rfl
        go_roundw
        case rel => exact ⟨k + 1, by omega, by go_num, by rw [HS2.out]; rfl, (HB3.out.setCell (p := ⟨w.heap.size + 1, 0, none⟩) (by simp) _).setCell (p := ⟨w.heap.size + 1, 1, none⟩) (by simp) _, by simp; omega, by go_simp, by go_simp, by go_simp, by go_simp, by rw [HS2.out]; go_simp, by have : wtx (k + 1) = tx := rfl; rw [this]; go_simp, by go_simp, by go_simp⟩
        case measure => simp [intOf]; omega
      · have hq : (cnt zs (zs.getD k 0) : Int) ≤ (mto zs k).2 := by assumption
        have HS2 : Hid (mto zs (k + 1) = mto zs k) := by rw [HS.out, mstep, if_neg (by omega)]; exact rfl
        have hk0 : 0 < k := by
          rcases Nat.eq_zero_or_pos k with h | h
          · subst h; have : (mto zs 0).2 = -1 := rfl; omega
          · exact h
        have HW : Hid (wtx (k + 1) = wtx k) := by unfold wtx; rw [if_neg (by omega), if_neg (by omega)]; exact rfl
        go_roundw
        case rel => exact ⟨k + 1, by omega, by go_num, by rw [HS2.out], HB3.out, by omega, hr0', hr1', fr0', fr1', by rw [HS2.out]; exact hb0', by rw [HW.out]; exact hb1', fb0', fb1'⟩
        case measure => simp [intOf]; omega
    · have hkl : k = len := by omega
      subst hkl
      have HX : Hid (most zs = (mto zs k).1 ∧ times zs = max (mto zs k).2 0) := by
        unfold most times; rw [HZ.out]; exact ⟨rfl, rfl⟩
      have HB := Lib.hid hb; clear hb
      by_cases hneg : (mto zs k).2 < 0
      · have HY := Lib.hid (show max (mto zs k).2 0 = 0 by omega)
        go_wp2
        refine bodyPost_ret (v := .tuple #[.agg #[.int .i64 (mto zs k).1, .string (wtx k)], .int .i64 0]) (by simp only [results, Try.results13]; go_simp) rfl ⟨by rw [HX.out.1, HX.out.2, HY.out], ?_⟩
        exact (HB.out.setCell (Nat.le_refl _) _).setCell (Nat.le_refl _) _
      · have HY := Lib.hid (show max (mto zs k).2 0 = (mto zs k).2 by omega)
        go_wp2
        refine bodyPost_ret (v := .tuple #[.agg #[.int .i64 (mto zs k).1, .string (wtx k)], .int .i64 (mto zs k).2]) (by simp only [results, Try.results13]; go_simp) rfl ⟨by rw [HX.out.1, HX.out.2, HY.out], ?_⟩
        exact (HB.out.setCell (Nat.le_refl _) _).setCell (Nat.le_refl _) _

theorem wmost_nil (a : Option Addr) (cap : Nat) (w : World) :
    Calls Try.prog 13 #[.slice a 0 cap] w fun e w' => e = .returned (.tuple #[.agg #[.int .i64 (most []), .string (wtx 0)], .int .i64 (times [])]) ∧ Below w.heap.size w w' := by
  go_enter Try.func13, Try.ntmps13
  go_wp2
  refine wp_loop_rounds 1 ?_
  rw [rounds_succ]
  go_wp2
  refine bodyPost_ret (v := .tuple #[.agg #[.int .i64 0, .string ⟨#[]⟩], .int .i64 0]) (by simp [results, Try.results13, go_sem]) rfl ⟨rfl, ?_⟩
  exact ((Below.refl _ _).alloc (Nat.le_refl _) _).alloc (by simp) _

theorem wmost_any (a : Option Addr) (len cap : Nat) (zs : List Int) (w : World) (hm : len ≤ 1048576) (h : IsWords w a len zs) :
    Calls Try.prog 13 #[.slice a len cap] w fun e w' => e = .returned (.tuple #[.agg #[.int .i64 (most zs), .string (wtx len)], .int .i64 (times zs)]) ∧ Below w.heap.size w w' := by
  rcases h with ⟨rfl, rfl⟩ | ⟨b, off, rfl, hz, hc⟩
  · exact wmost_nil a cap w
  · exact wmost_row b off len cap zs w hm hz hc
end Go.Proofs.Ytijfkcbhojjgnaa.fanCounts
