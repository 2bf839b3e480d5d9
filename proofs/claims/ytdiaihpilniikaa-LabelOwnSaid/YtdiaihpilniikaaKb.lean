/- The sum of layer 6: contracts of over, More, Sum. -/
import Derived.Test.YtdiaihpilniikaaKa
namespace Go.Proofs.Ytdiaihpilniikaa
open Go.RowKit Go.Maps

theorem halfTab_get {j : Nat} (h : j < 16) : (halfTab 16)[j]? = some (.int .u32 ((stp4 j : Nat) : Int)) := by
  match j, h with
  | 0, _ => rfl
  | 1, _ => rfl
  | 2, _ => rfl
  | 3, _ => rfl
  | 4, _ => rfl
  | 5, _ => rfl
  | 6, _ => rfl
  | 7, _ => rfl
  | 8, _ => rfl
  | 9, _ => rfl
  | 10, _ => rfl
  | 11, _ => rfl
  | 12, _ => rfl
  | 13, _ => rfl
  | 14, _ => rfl
  | 15, _ => rfl
  | _ + 16, h => omega
theorem nib_facts (r : Nat) (hr : r < 4294967296) : ∃ j : Nat, j < 16 ∧ bits .and .u32 (r : Int) (15 : Int) = (j : Int) ∧ bits .xor .u32 ((r : Int) / (16 : Int)) ((stp4 j : Nat) : Int) = ((nib r : Nat) : Int) := by
  refine ⟨r &&& 15, Nat.lt_of_le_of_lt Nat.and_le_right (by decide), ?_, ?_⟩
  · exact u32_and_nat r 15 hr (by decide)
  · have h : (r : Int) / (16 : Int) = ((r >>> 4 : Nat) : Int) := by rw [Nat.shiftRight_eq_div_pow]; omega
    rw [h]
    exact u32_xor_nat (r >>> 4) (stp4 (r &&& 15)) (by rw [Nat.shiftRight_eq_div_pow]; omega) (stp4_lt (Nat.lt_of_le_of_lt Nat.and_le_right (by decide)))

theorem over_any (r : Nat) (hr : r < 4294967296) (A : Option Addr) (n c : Nat) (bs : List UInt8) (w : World) (B : Nat) (hx : Reads w B 1 A n (bs.map B8)) (hB : B ≤ w.heap.size) (hbig : n ≤ 140737488355328) :
    Calls Try.prog 39 #[.int .u32 (r : Int), .slice A n c] w fun e w' => e = .returned (.int .u32 ((over r bs : Nat) : Int)) ∧ Below w.heap.size w w' := by
  have HX := Lib.hid hx
  have hlen : bs.length = n := by have := hx.1; simpa using this
  clear hx
  go_enter Try.func39, Try.ntmps39
  go_wp2_with fail
  refine (halves_any w).mono ?_
  rintro e w1 ⟨rfl, hb1⟩
  have HB1 := Lib.hid hb1
  have hs1 := hb1.size
  obtain ⟨v0, v1, v2, v3, v4, v5, v6, v7, v8, v9, v10, v11, v12, v13, v14, v15, hv⟩ : ∃ v0 v1 v2 v3 v4 v5 v6 v7 v8 v9 v10 v11 v12 v13 v14 v15 : Int, halfTab 16 = #[.int .u32 v0, .int .u32 v1, .int .u32 v2, .int .u32 v3, .int .u32 v4, .int .u32 v5, .int .u32 v6, .int .u32 v7, .int .u32 v8, .int .u32 v9, .int .u32 v10, .int .u32 v11, .int .u32 v12, .int .u32 v13, .int .u32 v14, .int .u32 v15] := ⟨_, _, _, _, _, _, _, _, _, _, _, _, _, _, _, _, rfl⟩
  have HV := Lib.hid hv
  rw [hv]
  clear hb1 hv
  go_wp2_with fail
  refine wp_world fun W hW => ?_
  rw [← HV.out] at hW
  have HT : Hid (∀ j, j < 16 → W.cell? ⟨w1.heap.size, j, none⟩ = some (.int .u32 ((stp4 j : Nat) : Int))) := Lib.hid fun j hj => by
    rw [hW]; exact ((Blk.new w1 _ (halfTab 16)).cell j).trans (halfTab_get hj)
  have HW : Hid (Below w.heap.size w W) := Lib.hid (by rw [hW]; exact HB1.out.alloc hs1 _)
  have HR : Hid (Reads W B 1 A n (bs.map B8)) := Lib.hid (HX.out.below (HW.out.mono hB))
  clear hW
  go_loopw [0, 7, 11] (fun s0 _ s11 wr => ∃ k : Nat, k ≤ n ∧ s0 = .int .u32 ((over r (bs.take k) : Nat) : Int) ∧ s11 = .int .i64 k ∧ wr = W) (fun _ _ s _ => n - (intOf s).toNat)
  case atStart => exact ⟨0, Nat.zero_le _, by rw [List.take_zero]; rfl, rfl, rfl⟩
  case round =>
    obtain ⟨k, hk, rfl, rfl, rfl⟩ := hrel
    have hk0 : (0 : Int) ≤ (k : Int) := Int.natCast_nonneg _
    by_cases hlt : k < n
    · have hk1 : (k : Int) < (n : Int) := by omega
      obtain ⟨ad, u, rfl, _, hu, hc⟩ := HR.out.at_ hlt
      obtain ⟨x, hx⟩ : ∃ x, bs[k]? = some x := ⟨_, List.getElem?_eq_getElem (by omega)⟩
      have hue : u = .int .u8 (x.toNat : Int) := by
        rw [List.getElem?_map, hx] at hu; exact (Option.some.inj hu).symm
      subst hue
      obtain ⟨q, hq⟩ : ∃ q, q = over r (bs.take k) := ⟨_, rfl⟩
      have hql : q < 4294967296 := by rw [hq]; exact over_lt hr _
      obtain ⟨y, hy⟩ : ∃ y : Nat, y = x.toNat := ⟨_, rfl⟩
      have hy2 : y < 256 := by rw [hy]; exact x.toNat_lt
      have HN : Hid (over r (bs.take (k + 1)) = upd q y) := Lib.hid (by
        rw [List.take_add_one, hx, over_append, hq, hy]; rfl)
      rw [← hy] at hc
      rw [← hq]
      obtain ⟨r1, hr1⟩ : ∃ r1, r1 = q ^^^ y := ⟨_, rfl⟩
      have hr1l : r1 < 4294967296 := by rw [hr1]; exact Nat.xor_lt_two_pow (n := 32) hql (by omega)
      have hx1 : bits .xor .u32 (q : Int) (y : Int) = (r1 : Int) := by rw [hr1]; exact u32_xor_nat q y hql (by omega)
      obtain ⟨r2, hr2⟩ : ∃ r2, r2 = nib r1 := ⟨_, rfl⟩
      obtain ⟨r3, hr3⟩ : ∃ r3, r3 = nib r2 := ⟨_, rfl⟩
      have hr2l : r2 < 4294967296 := by rw [hr2]; exact nib_lt hr1l
      obtain ⟨j1, hj1, ha1, hb1⟩ := nib_facts r1 hr1l
      obtain ⟨j2, hj2, ha2, hb2⟩ := nib_facts r2 hr2l
      have hc1 := HT.out j1 hj1
      have hc2 := HT.out j2 hj2
      rw [← hr2] at hb1
      rw [← hr3] at hb2
      have HN3 : Hid (upd q y = r3) := Lib.hid (by rw [hr3, hr2, hr1]; rfl)
      have hyc : (y : Int) % 4294967296 = (y : Int) := by omega
      obtain ⟨z1, hz1⟩ : ∃ z, z = stp4 j1 := ⟨_, rfl⟩
      obtain ⟨z2, hz2⟩ : ∃ z, z = stp4 j2 := ⟨_, rfl⟩
      rw [← hz1] at hb1 hc1
      rw [← hz2] at hb2 hc2
      have hj1' : (j1 : Int) < 16 := by omega
      have hj2' : (j2 : Int) < 16 := by omega
      have hj10 : (0 : Int) ≤ (j1 : Int) := Int.natCast_nonneg _
      have hj20 : (0 : Int) ≤ (j2 : Int) := Int.natCast_nonneg _
      clear hq hy hx hr1 hr2 hr3 hz1 hz2 hu
      go_wp2
      go_roundw
      case rel => exact ⟨k + 1, by omega, by rw [HN.out, HN3.out], by go_num, trivial⟩
      case measure => simp [intOf]; omega
    · have hkn : k = n := by omega
      have HE : Hid (over r (bs.take k) = over r bs) := Lib.hid (by rw [hkn, ← hlen, List.take_length])
      rw [HE.out]
      go_wp2
      go_ret
      exact ⟨rfl, HW.out⟩
theorem not_u32 (r : Nat) (hr : r < 4294967296) : bits .xor .u32 (4294967295 : Int) (r : Int) = ((r ^^^ 4294967295 : Nat) : Int) := by
  rw [Nat.xor_comm]; exact u32_xor_nat 4294967295 r (by decide) hr
theorem more_any (s : Nat) (hs : s < 4294967296) (A : Option Addr) (n c : Nat) (bs : List UInt8) (w : World) (B : Nat) (hx : Reads w B 1 A n (bs.map B8)) (hB : B ≤ w.heap.size) (hbig : n ≤ 140737488355328) :
    Calls Try.prog 49 #[.int .u32 (s : Int), .slice A n c] w fun e w' => e = .returned (.int .u32 ((over (s ^^^ 4294967295) bs ^^^ 4294967295 : Nat) : Int)) ∧ Below w.heap.size w w' := by
  have hr : s ^^^ 4294967295 < 4294967296 := Nat.xor_lt_two_pow (n := 32) hs (by decide)
  obtain ⟨r, hre⟩ : ∃ r, r = s ^^^ 4294967295 := ⟨_, rfl⟩
  rw [← hre] at hr ⊢
  obtain ⟨t, hte⟩ : ∃ t, t = over r bs := ⟨_, rfl⟩
  have ht : t < 4294967296 := by rw [hte]; exact over_lt hr _
  have h1 : bits .xor .u32 IntKind.u32.max (s : Int) = (r : Int) := by rw [hre]; exact not_u32 s hs
  have h2 : bits .xor .u32 IntKind.u32.max (t : Int) = ((t ^^^ 4294967295 : Nat) : Int) := not_u32 t ht
  have hsg : IntKind.u32.signed = false := rfl
  obtain ⟨u, hue⟩ : ∃ u, u = t ^^^ 4294967295 := ⟨_, rfl⟩
  rw [← hue] at h2
  have HO := Lib.hid (over_any r hr A n c bs w B hx hB hbig)
  rw [← hte] at HO ⊢
  rw [← hue]
  clear hx hre hte hue
  go_enter Try.func49, Try.ntmps49
  go_wp2_with (go_at_call 39; refine HO.out.mono ?_; rintro e w1 ⟨rfl, hb1⟩; have HB1 := Lib.hid hb1; clear hb1)
  go_ret
  exact ⟨rfl, HB1.out⟩
theorem sum_any (A : Option Addr) (n c : Nat) (bs : List UInt8) (w : World) (B : Nat) (hx : Reads w B 1 A n (bs.map B8)) (hB : B ≤ w.heap.size) (hbig : n ≤ 140737488355328) :
    Calls Try.prog 31 #[.slice A n c] w fun e w' => e = .returned (.int .u32 ((crcSum bs : Nat) : Int)) ∧ Below w.heap.size w w' := by
  have HO := Lib.hid (more_any 0 (by decide) A n c bs w B hx hB hbig)
  rw [show over (0 ^^^ 4294967295) bs ^^^ 4294967295 = crcSum bs by rw [Nat.zero_xor]; rfl] at HO
  obtain ⟨t, hte⟩ : ∃ t, t = crcSum bs := ⟨_, rfl⟩
  rw [← hte] at HO ⊢
  clear hx hte
  go_enter Try.func31, Try.ntmps31
  go_wp2_with (go_at_call 49; refine HO.out.mono ?_; rintro e w1 ⟨rfl, hb1⟩; have HB1 := Lib.hid hb1; clear hb1)
  go_ret
  exact ⟨rfl, HB1.out⟩
end Go.Proofs.Ytdiaihpilniikaa
