/- The drive's Flip: the pure law, that it keeps the invariant, its contract. -/
import Derived.Test.YtdmcjomcbhdcbaaCu
import Derived.IntWalk
import Derived.Laws.Entries
namespace Go.Proofs.Ytdmcjomcbhdcbaa
open Go.RowKit Go.Maps

def xorAt (d : List UInt8) (a : Nat) (pat : List UInt8) : Nat → List UInt8
  | 0 => d
  | k + 1 => (xorAt d a pat k).set (a + k) ((xorAt d a pat k).getD (a + k) 0 ^^^ pat.getD k 0)
theorem xorAt_length (d : List UInt8) (a : Nat) (pat : List UInt8) : ∀ k, (xorAt d a pat k).length = d.length
  | 0 => rfl
  | k + 1 => by simp only [xorAt, List.length_set]; exact xorAt_length d a pat k
def Drv.flipTo (S : Drv) (i a : Nat) (pat : List UInt8) (k : Nat) : Drv := S.setBody i ⟨xorAt (S.body i).data a pat k, (S.body i).safe⟩
def Drv.flip (S : Drv) (s : Nm) (n : Int) (pat : List UInt8) : Drv × Int :=
  if named s = true ∧ n < 0 then (S, 2) else
  match S.find s with
  | (none, e) => (S, e)
  | (some i, _) => if (S.len i : Int) ≤ n then (S, 0) else (S.flipTo i n.toNat pat (min pat.length (S.len i - n.toNat)), 0)

theorem Drv.flipTo_inv {S : Drv} {N i a k : Nat} {pat : List UInt8} (h : S.Inv N) (hm : i ∈ refs S.now) : (S.flipTo i a pat k).Inv N := by
  have hi := h.rlt i hm
  have hl : ∀ j, (S.flipTo i a pat k).len j = S.len j := fun j => by
    unfold Drv.flipTo
    rw [setBody_len S hi]
    split
    · rename_i e; subst e; exact xorAt_length _ _ _ _
    · rfl
  exact { h with
    rlt := fun j hj => by
      show j < (S.setBody i _).bodies.length
      rw [Drv.setBody_length]; exact h.rlt j hj
    used := by rw [Drv.sum_same (S := S) fun j _ => hl j]; exact h.used
    len := fun j => by rw [hl]; exact h.len j
    safe := fun j => by
      rw [hl]
      by_cases e : j = i
      · subst e; unfold Drv.flipTo; rw [Drv.setBody_same S hi]; exact h.safe j
      · unfold Drv.flipTo; rw [Drv.setBody_other S e]; exact h.safe j }
theorem Drv.flip_inv {S : Drv} {N : Nat} (h : S.Inv N) (s : Nm) (n : Int) (pat : List UInt8) : (S.flip s n pat).1.Inv N := by
  unfold Drv.flip
  split
  · exact h
  · split
    · exact h
    · rename_i i e hf
      split
      · exact h
      · exact Drv.flipTo_inv h (refs_mem h.tnow (find_some hf).1)
theorem Drv.flip_room (S : Drv) (s : Nm) (n : Int) (pat : List UInt8) : (S.flip s n pat).1.room = S.room := by
  unfold Drv.flip Drv.flipTo Drv.setBody
  repeat' (first | rfl | split)

theorem size_set' (w : World) (p : Addr) (u : Value) : (w.setCell p u).heap.size = w.heap.size := by simp [World.setCell]

theorem setCell_same {w : World} {a : Addr} {v : Value} (h : w.cell? a = some v) : w.setCell a v = w := by
  obtain ⟨heap, t1, t2, t3, t4⟩ := w
  obtain ⟨b, off, spot⟩ := a
  unfold World.cell? at h
  unfold World.setCell
  congr 1
  apply Array.ext_getElem?
  intro k
  rw [Array.getElem?_modify]
  split
  · rename_i e
    subst e
    cases hb : heap[b]? with
    | none => rfl
    | some o =>
      rw [hb] at h
      simp only [Option.map_some]
      cases o <;> simp only at h ⊢
      rename_i c t f
      cases spot with
      | some s => simp at h
      | none =>
        simp only [Option.isSome_none, Bool.false_eq_true, if_false] at h ⊢
        congr 2
        apply Array.ext_getElem?
        intro j
        rw [Array.getElem?_setIfInBounds]
        split
        · rename_i e; subst e
          split
          · exact h.symm
          · rename_i hlt; rw [Array.getElem?_eq_none (by omega)]
        · rfl
  · rfl

theorem ownsRow_set {w : World} {base n g c j : Nat} {e : TypeId} {xs : List Value} (h : w.ownsRow base e 1 (.slice (some ⟨g, 0, none⟩) n c) n xs) (u : Value) :
    (w.setCell ⟨g, j, none⟩ u).ownsRow base e 1 (.slice (some ⟨g, 0, none⟩) n c) n (xs.set j u) := by
  obtain ⟨h1, h2⟩ := h
  rcases h2 with ⟨h3, _⟩ | ⟨g', cap, cur, h3, h4, h5, h6, h7, h8, h9⟩
  · cases h3
  · injection h3 with e1 _ e3
    injection e1 with e1
    injection e1 with e1
    subst e1 e3
    have hb : Blk w g e cur := h5
    refine ⟨by rw [List.length_set]; exact h1, .inr ⟨g, c, _, rfl, h4, hb.set_ j u, h6, h7, ?_, ?_⟩⟩
    · simp; omega
    · simp only [Array.toList_setIfInBounds]
      rw [List.take_set, h9]

theorem DrvAt.setByte {w : World} {p : Nat} {S : Drv} {L : Lay} (h : DrvAt w p S L) {i j g c : Nat} (hi : i < S.bodies.length) (hv : L.val i = .slice (some ⟨g, 0, none⟩) (S.len i) c) (b : UInt8) :
    DrvAt (w.setCell ⟨g, j, none⟩ (B8 b)) p (S.setBody i ⟨(S.body i).data.set j b, (S.body i).safe⟩) L := by
  have hrow := h.data i hi
  rw [hv] at hrow
  have hr2 := ownsRow_set (j := j) hrow (B8 b)
  rw [← List.map_set] at hr2
  have hg : w.grownBy (w.setCell ⟨g, j, none⟩ (B8 b)) (L.val i).ownBlock := ⟨rfl, rfl, rfl, by simp [World.setCell], fun k _ hk => Below.heap_setCell w ⟨g, j, none⟩ _ k (fun e => hk (by rw [hv, e]; rfl))⟩
  have hd := h.setData hi (v := L.val i) (bs := (S.body i).data.set j b) (by rw [List.length_set, hv]; exact hr2) hg (.inl rfl)
  have hne : g ≠ L.adr i := fun e => own_blk_ne hrow (h.body i hi) (by decide) (by rw [e]; rfl)
  have hc : (w.setCell ⟨g, j, none⟩ (B8 b)).cell? ⟨L.adr i, 0, none⟩ = some (L.val i) := (World.cell?_of_block (Below.heap_setCell w ⟨g, j, none⟩ _ _ (Ne.symm hne))).trans ((h.body i hi).cell 0)
  rw [setCell_same hc] at hd
  have hl : L.vals.set i (L.val i) = L.vals := by
    have hil : i < L.vals.length := by rw [h.lv]; exact hi
    unfold Lay.val
    apply List.ext_getElem?
    intro k
    rw [List.getElem?_set]
    split
    · rename_i e; subst e; simp [List.getD, hil]
    · rfl
  rw [hl] at hd
  exact hd

theorem bits_xor_u8 (a b : UInt8) : bits .xor .u8 (a.toNat : Int) (b.toNat : Int) = ((a ^^^ b).toNat : Int) := by
  have ha := a.toNat_lt
  have hb := b.toNat_lt
  have hx : a.toNat ^^^ b.toNat < 2 ^ 8 := Nat.xor_lt_two_pow (by omega) (by omega)
  have h1 : (BitVec.ofInt 8 (a.toNat : Int)).toNat = a.toNat := by rw [BitVec.ofInt_natCast, BitVec.toNat_ofNat]; exact Nat.mod_eq_of_lt (by omega)
  have h2 : (BitVec.ofInt 8 (b.toNat : Int)).toNat = b.toNat := by rw [BitVec.ofInt_natCast, BitVec.toNat_ofNat]; exact Nat.mod_eq_of_lt (by omega)
  show IntKind.u8.wrap ((BitVec.ofInt 8 (a.toNat : Int) ^^^ BitVec.ofInt 8 (b.toNat : Int)).toNat : Int) = _
  rw [BitVec.toNat_xor, h1, h2, UInt8.toNat_xor]
  unfold IntKind.wrap
  simp [IntKind.bits, IntKind.signed]
  omega

/-- The bytes behind 'at' turned by a pattern that lies apart. -/
theorem xor_cell (a b : UInt8) : Value.int .u8 (bits .xor .u8 (a.toNat : Int) (b.toNat : Int)) = B8 (a ^^^ b) := by rw [bits_xor_u8]; rfl

set_option maxRecDepth 100000 in
theorem flip_any (p : Nat) (S : Drv) (F : Nat → Prop) (s : ByteArray) (n : Int) (A : Option Addr) (c0 : Nat) (bs : List UInt8) (w : World) (hs : s.size ≤ maxLen) (hd : Dr w p S F) (hS : S.Small)
    (hr : Reads w w.heap.size 1 A bs.length (bs.map B8)) (hap : ∀ ad, A = some ad → ¬F ad.block) (hcl : bs.length ≤ c0) (hbl : bs.length ≤ 140737488351232) :
    Calls Try.prog 67 #[.pointer (some ⟨p, 0, none⟩), .string s, .int .i64 n, .slice A bs.length c0] w fun e w' =>
      e = .returned (.int .i64 (S.flip s.data.toList n bs).2) ∧ Dr w' p (S.flip s.data.toList n bs).1 (grow F w w') ∧ Touch F w w' := by
  obtain ⟨addr, hd⟩ := hd
  have HF := Lib.hid (find_any p S addr F s w hs hd)
  have HN := Lib.hid (fun W => named_any s W hs)
  have HD := Lib.hid hd
  by_cases hnn : named s.data.toList = true ∧ n < 0
  · have HR : Hid (S.flip s.data.toList n bs = (S, 2)) := Lib.hid (by unfold Drv.flip; rw [if_pos hnn])
    obtain ⟨hn1, hn2⟩ := hnn
    clear hd hS hr hap
    rw [HR.out]
    go_enter Try.func67, Try.ntmps67
    go_wp2_with fail
    refine (HN.out _).mono ?_
    rintro e w' ⟨rfl, rfl⟩
    rw [hn1]
    go_wp2
    go_ret
    exact ⟨rfl, ⟨_, HD.out.mono fun k h => .inl h⟩, Touch.refl _ _⟩
  · rcases find_cases S s.data.toList with ⟨hf, he⟩ | ⟨i, hf, hg⟩
    · obtain ⟨x, hx⟩ : ∃ x, x = (S.find s.data.toList).2 := ⟨_, rfl⟩
      rw [← hx] at hf he
      have HR : Hid (S.flip s.data.toList n bs = (S, x)) := Lib.hid (by unfold Drv.flip; rw [if_neg hnn, hf])
      rw [hf] at HF
      simp only [ptrO] at HF
      have hne : (x != 0) = true := by rcases he with rfl | rfl <;> rfl
      rw [HR.out]
      clear hd hx hf he hS hr hap
      by_cases hn1 : named s.data.toList = true
      · have hn2 : ¬n < 0 := fun h => hnn ⟨hn1, h⟩
        clear hnn
        go_enter Try.func67, Try.ntmps67
        go_wp2_with fail
        refine (HN.out _).mono ?_
        rintro e w' ⟨rfl, rfl⟩
        rw [hn1]
        go_wp2_with (go_at_call 70; refine HF.out.mono ?_; rintro e w' ⟨rfl, rfl⟩)
        go_ret
        exact ⟨rfl, ⟨_, HD.out.mono fun k h => .inl h⟩, Touch.refl _ _⟩
      · have hn1' : named s.data.toList = false := by simpa using hn1
        clear hnn hn1
        go_enter Try.func67, Try.ntmps67
        go_wp2_with fail
        refine (HN.out _).mono ?_
        rintro e w' ⟨rfl, rfl⟩
        rw [hn1']
        go_wp2_with (go_at_call 70; refine HF.out.mono ?_; rintro e w' ⟨rfl, rfl⟩)
        go_ret
        exact ⟨rfl, ⟨_, HD.out.mono fun k h => .inl h⟩, Touch.refl _ _⟩
    · have hn1 : named s.data.toList = true := (find_some hf).2
      have hn2 : ¬n < 0 := fun h => hnn ⟨hn1, h⟩
      rw [hf] at HF
      simp only [ptrO] at HF
      obtain ⟨L, rfl, hD, hFo⟩ := hd
      have hil : i < S.bodies.length := by rw [← hD.la]; exact hD.now.dget_lt _ (by rw [len_size]; exact hs) hg
      obtain ⟨a, c, hv, hnc⟩ := own_shape (hD.data i hil)
      have hc : w.cell? ⟨adrOf L.addr i, 0, none⟩ = some (.slice a (S.len i) c) := by have := (hD.body i hil).cell 0; rw [hv] at this; exact this
      have hlen := hS.len i
      by_cases hge : (S.len i : Int) ≤ n
      · have HR : Hid (S.flip s.data.toList n bs = (S, 0)) := Lib.hid (by unfold Drv.flip; rw [if_neg hnn, hf]; simp only; rw [if_pos hge])
        rw [HR.out]
        clear hD hf hg hS hnn hv hr hap
        go_enter Try.func67, Try.ntmps67
        go_wp2_with fail
        refine (HN.out _).mono ?_
        rintro e w' ⟨rfl, rfl⟩
        rw [hn1]
        go_wp2_with (go_at_call 70; refine HF.out.mono ?_; rintro e w' ⟨rfl, rfl⟩)
        go_ret
        exact ⟨rfl, ⟨_, HD.out.mono fun k h => .inl h⟩, Touch.refl _ _⟩
      · obtain ⟨m, rfl⟩ := Int.eq_ofNat_of_zero_le (Int.not_lt.1 hn2)
        have hml : m < S.len i := by omega
        obtain ⟨r, hrr⟩ : ∃ r, r = min bs.length (S.len i - m) := ⟨_, rfl⟩
        have HR : Hid (S.flip s.data.toList m bs = (S.flipTo i m bs r, 0)) := Lib.hid (by unfold Drv.flip; rw [if_neg hnn, hf]; simp only; rw [if_neg hge, hrr]; rfl)
        rw [HR.out]
        have hFi : F (adrOf L.addr i) := hFo _ (.inr (.inr (.inr (.inl (getD_mem 0 (by rw [hD.la]; exact hil))))))
        obtain ⟨nb, hnb⟩ : ∃ nb, nb = bs.length := ⟨_, rfl⟩
        have hrl : r ≤ nb := by omega
        have hrl2 : r ≤ S.len i - m := by omega
        have hmin : min (nb : Int) ((S.len i : Int) - m) = (r : Int) := by omega
        have hmin2 : min (nb : Int) (((S.len i - m : Nat) : Int)) = (r : Int) := by omega
        rw [← hnb] at hr hcl hbl ⊢
        have hl0 : 0 < S.len i := by omega
        obtain ⟨g, rfl⟩ : ∃ g, a = some ⟨g, 0, none⟩ := by
          have := hD.data i hil
          rw [hv] at this
          rcases this.2 with ⟨_, h0⟩ | ⟨g, _, _, e, _⟩
          · have : (S.body i).data.length = S.len i := rfl
            omega
          · injection e with e; exact ⟨g, e⟩
        have hFg : F g := hFo _ (.inr (.inr (.inr (.inr (.inl ⟨L.val i, getD_mem _ (by rw [hD.lv]; exact hil), by rw [hv]; rfl⟩)))))
        have HDD := Lib.hid hD
        have HFO := Lib.hid hFo
        have HV := Lib.hid hv
        have HRD := Lib.hid hr
        have HAP := Lib.hid hap
        have HNB := Lib.hid hnb
        have HI : Hid (DrvAt w p (S.flipTo i m bs 0) L ∧ Touch F w w ∧ w.heap.size = w.heap.size) := Lib.hid ⟨by
          have e : S.flipTo i m bs 0 = S := by
            unfold Drv.flipTo Drv.setBody xorAt
            have hl : S.bodies.set i ⟨(S.body i).data, (S.body i).safe⟩ = S.bodies := by
              apply List.ext_getElem?
              intro k
              rw [List.getElem?_set]
              split
              · rename_i e; subst e; simp [Drv.body, List.getD, hil]
              · rfl
            rw [hl]
          rw [e]; exact hD, Touch.refl _ _, rfl⟩
        clear hD hf hg hS hnn hv hFo hge hn2 hr hap hrr hnb
        go_enter Try.func67, Try.ntmps67
        go_wp2_with fail
        refine (HN.out _).mono ?_
        rintro e w' ⟨rfl, rfl⟩
        rw [hn1]
        go_wp2_with (go_at_call 70; refine HF.out.mono ?_; rintro e w' ⟨rfl, rfl⟩)
        go_loopw [56] (fun s wr => ∃ k : Nat, k ≤ r ∧ s = .int .i64 k ∧ DrvAt wr p (S.flipTo i m bs k) L ∧ Touch F w wr ∧ wr.heap.size = w.heap.size) (fun s _ => r - (intOf s).toNat)
        case atStart => exact ⟨0, Nat.zero_le _, rfl, HI.out.1, HI.out.2.1, rfl⟩
        case round =>
          obtain ⟨k, hk, rfl, hdw, htw, hsz⟩ := hrel
          by_cases hlt : k < r
          · obtain ⟨ad, u, rfl, _, hu, hcu⟩ := HRD.out.at_ (k := k) (by omega)
            obtain ⟨b, hb, rfl⟩ : ∃ b, bs[k]? = some b ∧ B8 b = u := by simpa [List.getElem?_map] using hu
            have hnF := HAP.out ad rfl
            have hcw : wr.cell? (ad.add k) = some (.int .u8 (b.toNat : Int)) := by
              rw [World.cell?_of_block (htw.block _ (by rw [block_of_add]; exact (by have := World.block_lt_of_cell? w _ hcu; rwa [block_of_add] at this)) (by rw [block_of_add]; exact hnF))]
              exact hcu
            obtain ⟨x, hx⟩ : ∃ x, (xorAt (S.body i).data m bs k)[m + k]? = some x := ⟨_, List.getElem?_eq_getElem (by rw [xorAt_length]; have : (S.body i).data.length = S.len i := rfl; omega)⟩
            have hle : (S.flipTo i m bs k).len i = S.len i := by unfold Drv.flipTo Drv.len; rw [Drv.setBody_same S hil]; exact xorAt_length _ _ _ _
            have hrow := hdw.data i (by unfold Drv.flipTo; rw [Drv.setBody_length]; exact hil)
            rw [HV.out, hle] at hrow
            have hdt : ((S.flipTo i m bs k).body i).data = xorAt (S.body i).data m bs k := by unfold Drv.flipTo; rw [Drv.setBody_same S hil]
            rw [hdt] at hrow
            have hgc : wr.cell? ⟨g, m + k, none⟩ = some (.int .u8 (x.toNat : Int)) := by
              obtain ⟨ad2, u2, e2, _, hu2, hc2⟩ := (Reads.of_own hrow).at_ (k := m + k) (by omega)
              injection e2 with e2
              subst e2
              rw [List.getElem?_map, hx] at hu2
              injection hu2 with hu2
              subst hu2
              rw [add_plain] at hc2
              rw [Nat.zero_add] at hc2
              exact hc2
            have hgf : wr.frozen? ⟨g, m + k, none⟩ = false := by
              rcases hrow.2 with ⟨h0, _⟩ | ⟨g', cap, cur, h3, _, h5, _⟩
              · cases h0
              · injection h3 with e1; injection e1 with e1; injection e1 with e1; subst e1
                exact (show Blk wr g _ cur from h5).frozen _
            have HNX : Hid (DrvAt (wr.setCell ⟨g, m + k, none⟩ (B8 (x ^^^ b))) p (S.flipTo i m bs (k + 1)) L) := Lib.hid (by
              have h1 := hdw.setByte (i := i) (j := m + k) (g := g) (c := c) (by unfold Drv.flipTo; rw [Drv.setBody_length]; exact hil) (by rw [hle]; exact HV.out) (x ^^^ b)
              rw [hdt] at h1
              have e : ((S.flipTo i m bs k).setBody i ⟨(xorAt (S.body i).data m bs k).set (m + k) (x ^^^ b), ((S.flipTo i m bs k).body i).safe⟩) = S.flipTo i m bs (k + 1) := by
                unfold Drv.flipTo
                rw [setBody_twice, Drv.setBody_same S hil]
                simp only [xorAt]
                rw [List.getD_eq_getElem?_getD, hx, List.getD_eq_getElem?_getD, hb]
                rfl
              rw [e] at h1
              exact h1)
            have HXC := Lib.hid (xor_cell x b)
            have HTN : Hid (Touch F w (wr.setCell ⟨g, m + k, none⟩ (B8 (x ^^^ b)))) := Lib.hid (htw.trans (Touch.setCell _ _ _ (.inl hFg)))
            have HSZ : Hid ((wr.setCell ⟨g, m + k, none⟩ (B8 (x ^^^ b))).heap.size = w.heap.size) := Lib.hid (by rw [size_set']; exact hsz)
            clear hdw htw hsz hu hcu hb hx hle hrow hdt
            go_wp2
            rw [HXC.out]
            go_roundw
            case rel => exact ⟨k + 1, by omega, by go_num, HNX.out, HTN.out, HSZ.out⟩
            case measure => simp [intOf]; omega
          · have hkr : k = r := by omega
            subst hkr
            have HDW := Lib.hid hdw
            have HTW := Lib.hid htw
            clear hdw htw hsz
            go_wp2
            go_ret
            exact ⟨rfl, ⟨_, L, rfl, HDW.out, fun k h => .inl (HFO.out k h)⟩, HTW.out⟩
end Go.Proofs.Ytdmcjomcbhdcbaa
