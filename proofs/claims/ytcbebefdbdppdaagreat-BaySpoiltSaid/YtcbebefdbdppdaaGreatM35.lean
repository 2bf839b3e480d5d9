/- A shard's bytes with some bits turned, all within 32 places: the reading of it tells so. No program in sight.; The drive's Cut: the pure law, that it keeps the invariant, its contract.; The drive's Flip: the pure law, that it keeps the invariant, its contract. -/
import Derived.Test.YtcbebefdbdppdaaGreatM34
import Derived.Test.YtcbebefdbdppdaaGreatM10
import Derived.IntWalk
import Derived.Laws.Entries
namespace Go.Proofs.YtcbebefdbdppdaaGreat

theorem msgBit_append (a b : List UInt8) (j : Nat) : msgBit (a ++ b) j = if j < 8 * a.length then msgBit a j else msgBit b (j - 8 * a.length) := by
  by_cases h : j < 8 * a.length
  · rw [if_pos h]
    unfold msgBit
    rw [List.getElem?_append_left (by omega)]
  · rw [if_neg h]
    unfold msgBit
    rw [List.getElem?_append_right (by omega), show j / 8 - a.length = (j - 8 * a.length) / 8 by omega, show (j - 8 * a.length) % 8 = j % 8 by omega]
def Still (e : List UInt8) : Prop := ∀ j, msgBit e j = false
theorem Still.left {a b : List UInt8} (h : Still (a ++ b)) : Still a := fun j => by
  have h1 := h j
  rw [msgBit_append] at h1
  by_cases hj : j < 8 * a.length
  · rwa [if_pos hj] at h1
  · cases hm : msgBit a j with
    | false => rfl
    | true => exact absurd (msgBit_lt hm) hj
theorem Still.right {a b : List UInt8} (h : Still (a ++ b)) : Still b := fun j => by
  have h1 := h (j + 8 * a.length)
  rwa [msgBit_append, if_neg (by omega), Nat.add_sub_cancel] at h1
theorem byte_zero {x : UInt8} (h : ∀ k, k < 8 → x.toNat.testBit k = false) : x = 0 := by
  have h1 : x.toNat = 0 := Nat.eq_of_testBit_eq fun k => by
    rw [Nat.zero_testBit]
    by_cases hk : k < 8
    · exact h k hk
    · exact Nat.testBit_lt_two_pow (Nat.lt_of_lt_of_le (show x.toNat < 2 ^ 8 from x.toNat_lt) (Nat.pow_le_pow_right (by decide) (by omega)))
  exact UInt8.toNat_inj.1 (by rw [h1]; rfl)
theorem Still.zero {e : List UInt8} (h : Still e) : e = List.replicate e.length 0 := by
  refine List.eq_replicate_iff.2 ⟨rfl, fun x hx => ?_⟩
  obtain ⟨i, hi, rfl⟩ := List.getElem_of_mem hx
  refine byte_zero fun k hk => ?_
  have h1 := h (8 * i + k)
  unfold msgBit at h1
  rw [show (8 * i + k) / 8 = i by omega, show (8 * i + k) % 8 = k by omega, List.getElem?_eq_getElem hi] at h1
  exact h1
theorem xorB_zeros (l : List UInt8) (n : Nat) (h : l.length = n) : xorB l (List.replicate n 0) = l := by
  subst h
  unfold xorB
  induction l with
  | nil => rfl
  | cons x l ih =>
    rw [List.length_cons, List.replicate_succ, List.zipWith_cons_cons, ih]
    rw [show x ^^^ 0 = x from UInt8.xor_zero]
theorem Still.xor {e : List UInt8} (h : Still e) {l : List UInt8} (hl : l.length = e.length) : xorB l e = l := by
  rw [h.zero]
  exact xorB_zeros l _ hl
theorem xorB_append {a b c d : List UInt8} (h : a.length = c.length) : xorB (a ++ b) (c ++ d) = xorB a c ++ xorB b d := by
  unfold xorB
  rw [List.zipWith_append h]
theorem xorB_length (a b : List UInt8) : (xorB a b).length = min a.length b.length := List.length_zipWith
theorem Burst.left {p : Nat} {a b : List UInt8} (h : Burst p (a ++ b)) : Burst p a := fun j hj => h j (by rw [msgBit_append, if_pos (msgBit_lt hj)]; exact hj)
theorem Burst.right {p : Nat} {a b : List UInt8} (h : Burst p (a ++ b)) : Burst (p - 8 * a.length) b := fun j hj => by
  have h1 := h (j + 8 * a.length) (by rw [msgBit_append, if_neg (by omega), Nat.add_sub_cancel]; exact hj)
  omega
theorem burst_or (e : List UInt8) : Still e ∨ ∃ j, msgBit e j = true := by
  by_cases h : ∃ j, msgBit e j = true
  · exact .inr h
  · exact .inl fun j => by cases hm : msgBit e j with
      | false => rfl
      | true => exact absurd ⟨j, hm⟩ h
/-- A sum behind bytes of which the first ones (at) stand as they were, and some bits behind them are turned. -/
theorem sum_turned {p n : Nat} {l x q e1 e2 : List UInt8} (hq : q.length = 4) (h1 : x.length = e1.length) (h2 : e2.length = 4) (hl : l.length = n) (ho : unle q = crcSum (l ++ x)) (hb : Burst p (e1 ++ e2)) (hne : ∃ j, msgBit (e1 ++ e2) j = true) :
    unle (xorB q e2) ≠ crcSum (l ++ xorB x e1) := fun h => by
  have e := sumOk_turned (l ++ x) q (List.replicate n 0 ++ e1) e2 hq (by rw [List.length_append, List.length_append, List.length_replicate]; omega) h2 ho
  rw [xorB_append (by rw [List.length_replicate]; exact hl), xorB_zeros l n hl] at e
  have h3 := e.1 h
  rw [List.append_assoc, over_append, over_zeros] at h3
  exact over_burst hb hne h3
namespace Hd
theorem openE_sum1 {b : List UInt8} (h : unle ((b.drop 32).take 4) ≠ crcSum (b.take 32)) : openE b ≠ 0 := by
  unfold openE
  split
  · decide
  · split
    · decide
    · rw [if_pos (Ne.symm h)]; decide
theorem openE_sum2 {b : List UInt8} (h : unle ((b.drop (36 + keyLen b)).take 4) ≠ crcSum (b.take 32 ++ (b.drop 36).take (keyLen b))) : openE b ≠ 0 := by
  unfold openE
  split
  · decide
  · split
    · decide
    · split
      · decide
      · split
        · decide
        · first | decide | (rw [if_pos h]; decide)
theorem split4 {e : List UInt8} {n : Nat} (h : 36 + n + 4 ≤ e.length) : ∃ e1 e2 e3 e4 e5 : List UInt8, e = e1 ++ (e2 ++ (e3 ++ (e4 ++ e5))) ∧ e1.length = 32 ∧ e2.length = 4 ∧ e3.length = n ∧ e4.length = 4 :=
  ⟨e.take 32, (e.drop 32).take 4, ((e.drop 32).drop 4).take n, (((e.drop 32).drop 4).drop n).take 4, (((e.drop 32).drop 4).drop n).drop 4, by simp only [List.take_append_drop], by simp; omega, by simp; omega, by simp; omega, by simp; omega⟩
/-- A bit of the head is turned: it does not open. -/
theorem open_turned (h : Hd) (hs : h.st.length = 8) (hk : h.key.length ≤ 255) (t e : List UInt8) {p : Nat} (he : e.length = (h.head ++ t).length) (hb : Burst p e) (hne : ∃ j, msgBit e j = true ∧ j < 8 * (40 + h.key.length)) :
    openE (xorB (h.head ++ t) e) ≠ 0 := by
  have hl := head_length h hs
  rw [List.length_append] at he
  obtain ⟨e1, e2, e3, e4, e5, rfl, l1, l2, l3, l4⟩ := split4 (e := e) (n := h.key.length) (by omega)
  have c1 := crcSum_lt h.fixed
  have c2 : h.sum < 4294967296 := crcSum_lt _
  have hf := fixed_length h hs
  have hkl := keyLen_head h hs hk t
  have eF : h.head ++ t = h.fixed ++ (leN (crcSum h.fixed) 4 ++ (h.key ++ (leN h.sum 4 ++ t))) := by unfold head; simp
  have u1 : unle (leN (crcSum h.fixed) 4) = crcSum h.fixed := by rw [unle_leN]; omega
  have u2 : unle (leN h.sum 4) = h.sum := by rw [unle_leN]; omega
  have n1 : (leN (crcSum h.fixed) 4).length = 4 := leN_length _ _
  have n2 : (leN h.sum 4).length = 4 := leN_length _ _
  obtain ⟨q1, hq1⟩ : ∃ q, q = leN (crcSum h.fixed) 4 := ⟨_, rfl⟩
  obtain ⟨q2, hq2⟩ : ∃ q, q = leN h.sum 4 := ⟨_, rfl⟩
  rw [← hq1] at eF u1 n1
  rw [← hq2] at eF u2 n2
  have g1 : (xorB h.fixed e1).length = 32 := by rw [xorB_length]; omega
  have g2 : (xorB q1 e2).length = 4 := by rw [xorB_length]; omega
  have g3 : (xorB h.key e3).length = h.key.length := by rw [xorB_length]; omega
  have g4 : (xorB q2 e4).length = 4 := by rw [xorB_length]; omega
  have eG : xorB (h.head ++ t) (e1 ++ (e2 ++ (e3 ++ (e4 ++ e5)))) = xorB h.fixed e1 ++ (xorB q1 e2 ++ (xorB h.key e3 ++ (xorB q2 e4 ++ xorB t e5))) := by
    rw [eF, xorB_append (by omega), xorB_append (by omega), xorB_append (by omega), xorB_append (by omega)]
  rcases burst_or (e1 ++ e2) with hst | hbit
  · rw [hst.left.xor (by omega), hst.right.xor (by omega)] at eG
    have kG : keyLen (xorB (h.head ++ t) (e1 ++ (e2 ++ (e3 ++ (e4 ++ e5))))) = h.key.length := by
      unfold keyLen at hkl ⊢
      rw [eG]
      rw [eF] at hkl
      rw [List.getD_eq_getElem?_getD, List.getElem?_append_left (by omega)] at hkl ⊢
      exact hkl
    refine openE_sum2 ?_
    rw [kG, eG, ← List.append_assoc h.fixed, show 36 + h.key.length = (h.fixed ++ q1).length + h.key.length by rw [List.length_append]; omega, ← List.drop_drop, List.drop_left, show (36 : Nat) = (h.fixed ++ q1).length by rw [List.length_append]; omega, List.drop_left,
      List.drop_left' g3, List.take_left' g4, List.take_left' g3, List.append_assoc, List.take_left' hf]
    have hb' : Burst (p - 8 * e1.length - 8 * e2.length) (e3 ++ e4) := by
      have h1 := hb.right.right
      rw [← List.append_assoc] at h1
      exact h1.left
    obtain ⟨j, hj, hjl⟩ := hne
    have hne' : ∃ j, msgBit (e3 ++ e4) j = true := by
      rw [← List.append_assoc, ← List.append_assoc e3] at hj
      rw [msgBit_append] at hj
      rw [List.length_append] at hj
      by_cases h5 : j < 8 * (e1.length + e2.length)
      · rw [if_pos h5, hst j] at hj; cases hj
      · rw [if_neg h5, msgBit_append, if_pos (by rw [List.length_append]; omega)] at hj
        exact ⟨_, hj⟩
    exact sum_turned n2 l3.symm l4 hf u2 hb' hne'
  · refine openE_sum1 ?_
    rw [eG, List.drop_left' g1, List.take_left' g2, List.take_left' g1]
    rw [← List.append_assoc] at hb
    exact sum_turned (l := []) (n := 0) n1 (by omega) l2 rfl u1 hb.left hbit
end Hd
/-- A bit of a frame is turned: one of the blocks is not whole. -/
theorem cut_turned (s : Nat) (hs : s < 4294967296) : ∀ (l : List (List UInt8)) (j p : Nat) (e : List UInt8), e.length = (frames s j l).length → Burst p e → (∃ i, msgBit e i = true) → (cutB s j (xorB (frames s j l) e) (l.map List.length)).all (·.2) = false
  | [], j, p, e, he, hb, ⟨i, hi⟩ => by
    have h0 : e = [] := List.eq_nil_of_length_eq_zero he
    rw [h0] at hi
    exact absurd (msgBit_lt hi) (by simp)
  | x :: l, j, p, e, he, hb, ⟨i, hi⟩ => by
    have eF : frames s j (x :: l) = x ++ (leN (ownSum s j x) 4 ++ frames s (j + 1) l) := by
      show x ++ leN (ownSum s j x) 4 ++ frames s (j + 1) l = _
      rw [List.append_assoc]
    have hq := ownSum_lt s j x
    have u1 : unle (leN (ownSum s j x) 4) = ownSum s j x := by rw [unle_leN]; omega
    have n1 : (leN (ownSum s j x) 4).length = 4 := leN_length _ _
    rw [eF] at he ⊢
    obtain ⟨q, hq⟩ : ∃ q, q = leN (ownSum s j x) 4 := ⟨_, rfl⟩
    rw [← hq] at he u1 n1 ⊢
    rw [List.length_append, List.length_append] at he
    obtain ⟨e1, e2, e3, rfl, l1, l2⟩ : ∃ e1 e2 e3 : List UInt8, e = e1 ++ (e2 ++ e3) ∧ e1.length = x.length ∧ e2.length = 4 :=
      ⟨e.take x.length, (e.drop x.length).take 4, (e.drop x.length).drop 4, by simp only [List.take_append_drop], by simp; omega, by simp; omega⟩
    have g1 : (xorB x e1).length = x.length := by rw [xorB_length]; omega
    have g2 : (xorB q e2).length = 4 := by rw [xorB_length]; omega
    rw [xorB_append (by omega), xorB_append (by omega)]
    show List.all (if (xorB x e1 ++ (xorB q e2 ++ xorB (frames s (j + 1) l) e3)).length < x.length + 4 then _ else _) _ = false
    rw [if_neg (by rw [List.length_append, List.length_append]; omega), List.all_cons, List.take_left' g1, List.drop_left' g1, List.take_left' g2, ← List.drop_drop, List.drop_left' g1, List.drop_left' g2]
    rcases burst_or (e1 ++ e2) with hst | hbit
    · rw [← List.append_assoc] at hb hi
      rw [msgBit_append] at hi
      have h3 : e3.length = (frames s (j + 1) l).length := by simp only [List.length_append] at he; omega
      have hi3 : ∃ i, msgBit e3 i = true := by
        by_cases h5 : i < 8 * (e1 ++ e2).length
        · rw [if_pos h5, hst i] at hi; cases hi
        · rw [if_neg h5] at hi; exact ⟨_, hi⟩
      rw [cut_turned s hs l (j + 1) _ e3 h3 hb.right hi3, Bool.and_false]
    · rw [← List.append_assoc] at hb
      have hne := sum_turned (l := leN s 4 ++ leN j 4) (n := 8) (x := x) n1 (by omega) l2 (by rw [List.length_append, leN_length, leN_length]) u1 hb.left hbit
      rw [show decide (unle (xorB q e2) = ownSum s j (xorB x e1)) = false from decide_eq_false hne, Bool.false_and]
/-- What a shard's bytes say with bits turned, all within 32 places: spoilt; the head still speaks where no bit of it was turned. -/
theorem shard_turned (h : Hd) (hs : h.st.length = 8) (hm : h.may = 0) (l : List (List UInt8)) (hl : l.map List.length = h.lens) (e : List UInt8) {p : Nat} (he : e.length = (shardBytes h l).length) (hb : Burst p e) (hne : ∃ j, msgBit e j = true) :
    parseE (xorB (shardBytes h l) e) ≠ 0 ∧ ((∃ j, msgBit e j = true ∧ j < 8 * (40 + h.key.length)) → Hd.openE (xorB (shardBytes h l) e) ≠ 0) ∧
    ((∀ j, msgBit e j = true → ¬ j < 8 * (40 + h.key.length)) → Hd.openE (xorB (shardBytes h l) e) = 0 ∧ Hd.ofB (xorB (shardBytes h l) e) = h ∧ (xorB (shardBytes h l) e).length = h.len) := by
  have f := Hd.fit_of hm
  have f4 := f.key
  have hlen := shard_length h hs l hl
  have hL : (xorB (shardBytes h l) e).length = h.len := by rw [xorB_length]; omega
  have hH := Hd.head_length h hs
  have hB : (∀ j, msgBit e j = true → ¬ j < 8 * (40 + h.key.length)) → xorB (shardBytes h l) e = h.head ++ xorB (frames h.sum 0 l) (e.drop (40 + h.key.length)) ∧ Burst (p - 8 * (40 + h.key.length)) (e.drop (40 + h.key.length)) ∧ (∃ j, msgBit (e.drop (40 + h.key.length)) j = true) ∧ (e.drop (40 + h.key.length)).length = (frames h.sum 0 l).length := by
    intro hz
    unfold shardBytes at he ⊢
    rw [List.length_append] at he
    obtain ⟨e1, e2, rfl, l1⟩ : ∃ e1 e2 : List UInt8, e = e1 ++ e2 ∧ e1.length = 40 + h.key.length := ⟨e.take (40 + h.key.length), e.drop (40 + h.key.length), (List.take_append_drop _ _).symm, by rw [List.length_take]; omega⟩
    rw [List.drop_left' l1]
    rw [List.length_append] at he
    have hst : Still e1 := fun j => by
      cases hm : msgBit e1 j with
      | false => rfl
      | true =>
        have h1 := msgBit_lt hm
        exact absurd (show j < 8 * (40 + h.key.length) by omega) (hz j (by rw [msgBit_append, if_pos h1]; exact hm))
    refine ⟨by rw [xorB_append (by omega), hst.xor (by omega)], by rw [← l1]; exact hb.right, ?_, by omega⟩
    obtain ⟨j, hj⟩ := hne
    have h2 := hz j hj
    rw [msgBit_append, if_neg (by omega)] at hj
    exact ⟨_, hj⟩
  refine ⟨?_, fun h1 => Hd.open_turned h hs (by omega) _ e he hb h1, fun h1 => ?_⟩
  · by_cases h1 : ∃ j, msgBit e j = true ∧ j < 8 * (40 + h.key.length)
    · have h2 := Hd.open_turned h hs (by omega) _ e he hb h1
      unfold parseE
      rw [if_pos (show Hd.openE (xorB (shardBytes h l) e) ≠ 0 from h2)]
      exact h2
    · obtain ⟨b1, b2, b3, b4⟩ := hB fun j hj h2 => h1 ⟨j, hj, h2⟩
      have o1 : Hd.openE (xorB (shardBytes h l) e) = 0 := by rw [b1]; exact Hd.openE_head h hs hm _
      have o2 : Hd.ofB (xorB (shardBytes h l) e) = h := by rw [b1]; exact Hd.ofB_head h hs f _
      have o3 : (cutOf (xorB (shardBytes h l) e)).all (·.2) = false := by
        unfold cutOf
        rw [o2, b1, List.drop_left' hH, ← hl]
        exact cut_turned _ (crcSum_lt _) _ _ _ _ b4 b2 b3
      unfold parseE
      rw [if_neg (by omega), o2, if_neg (by omega), if_neg (by omega), o3]
      decide
  · obtain ⟨b1, b2, b3, b4⟩ := hB h1
    refine ⟨?_, ?_, hL⟩
    · rw [b1]; exact Hd.openE_head h hs hm _
    · rw [b1]; exact Hd.ofB_head h hs f _
end Go.Proofs.YtcbebefdbdppdaaGreat
namespace Go.Proofs.YtcbebefdbdppdaaGreat
open Go.RowKit Go.Maps

def Drv.cutTo (S : Drv) (i m : Nat) : Drv := { S.setBody i ⟨(S.body i).data.take m, min (S.body i).safe m⟩ with used := S.used - ((S.len i : Int) - m) }
def Drv.cut (S : Drv) (s : Nm) (n : Int) : Drv × Int :=
  if named s = true ∧ n < 0 then (S, 2) else
  match S.find s with
  | (none, e) => (S, e)
  | (some i, _) => if (S.len i : Int) ≤ n then (S, 0) else (S.cutTo i n.toNat, 0)

theorem Drv.cutTo_inv {S : Drv} {N i m : Nat} (h : S.Inv N) (hm : i ∈ refs S.now) (hlt : m < S.len i) : (S.cutTo i m).Inv N := by
  have hi := h.rlt i hm
  have hl : ∀ j, (S.cutTo i m).len j = if j = i then m else S.len j := fun j => by
    have : (S.cutTo i m).len j = (S.setBody i ⟨(S.body i).data.take m, min (S.body i).safe m⟩).len j := rfl
    rw [this, setBody_len S hi, List.length_take]
    have : (S.body i).data.length = S.len i := rfl
    split
    · omega
    · rfl
  have hb : ∀ j, (S.cutTo i m).body j = (S.setBody i ⟨(S.body i).data.take m, min (S.body i).safe m⟩).body j := fun j => rfl
  exact { h with
    rlt := fun j hj => by
      show j < (S.setBody i _).bodies.length
      rw [Drv.setBody_length]; exact h.rlt j hj
    used := by
      have e := Drv.sum_one (S := S.cutTo i m) (T := S) (n := S.len i - m) h.nodup hm (by rw [hl, if_pos rfl]; omega) (fun j hj => by rw [hl, if_neg hj])
      have hu := h.used
      show S.used - ((S.len i : Int) - m) = (((S.cutTo i m).sum (refs S.now) : Nat) : Int)
      rw [hu, e]
      omega
    len := fun j => by
      rw [hl]
      show _ ≤ 1073741824
      have := h.len i
      split
      · omega
      · exact h.len j
    safe := fun j => by
      rw [hl, hb]
      by_cases e : j = i
      · subst e; rw [Drv.setBody_same S hi, if_pos rfl]; exact Nat.min_le_right _ _
      · rw [Drv.setBody_other S e, if_neg e]; exact h.safe j }

theorem Drv.cut_inv {S : Drv} {N : Nat} (h : S.Inv N) (s : Nm) (n : Int) : (S.cut s n).1.Inv N := by
  unfold Drv.cut
  split
  · exact h
  · rename_i hneg
    split
    · exact h
    · rename_i i e hf
      split
      · exact h
      · rename_i hlt
        obtain ⟨hg, hn⟩ := find_some hf
        have hn0 : 0 ≤ n := Int.not_lt.1 fun h1 => hneg ⟨hn, h1⟩
        exact Drv.cutTo_inv h (refs_mem h.tnow hg) (by omega)
theorem Drv.cut_room (S : Drv) (s : Nm) (n : Int) : (S.cut s n).1.room = S.room := by
  unfold Drv.cut Drv.cutTo Drv.setBody
  repeat' (first | rfl | split)

theorem ownsRow_take {w : World} {base : Nat} {e : TypeId} {a : Option Addr} {n c m : Nat} {bs : List UInt8} (h : w.ownsRow base e 1 (.slice a n c) n (bs.map B8)) (hm : m ≤ n) (hn : 0 < n) :
    w.ownsRow base e 1 (.slice a m c) m ((bs.take m).map B8) := by
  obtain ⟨h1, h2⟩ := h
  rcases h2 with ⟨h3, h4⟩ | ⟨g, cap, cur, h3, h4, h5, h6, h7, h8, h9⟩
  · omega
  · injection h3 with e1 _ e3
    subst e1 e3
    refine ⟨?_, .inr ⟨g, c, cur, rfl, h4, h5, by omega, h7, h8, ?_⟩⟩
    · simp only [List.length_map] at h1
      simp only [List.length_map, List.length_take]
      omega
    · rw [List.map_take, ← h9, List.take_take]
      congr 1
      omega

theorem setBody_twice (S : Drv) (i : Nat) (A B : Body) : (S.setBody i A).setBody i B = S.setBody i B := by
  simp [Drv.setBody]

/-- A body cut off: the used bytes, the row's end, the safe count, written one after the other. -/
theorem DrvAt.cutOff {w : World} {p : Nat} {S : Drv} {L : Lay} (h : DrvAt w p S L) {i m c : Nat} {a : Option Addr} (hi : i < S.bodies.length) (hv : L.val i = .slice a (S.len i) c) (hm : m < S.len i) (u : Int) :
    DrvAt (((w.setCell ⟨p, 1, none⟩ (.int .i64 u)).drew.setCell ⟨L.adr i, 0, none⟩ (.slice a m c)).setCell ⟨L.adr i, 1, none⟩ (.int .i64 ((min (S.body i).safe m : Nat) : Int))) p
      { S.setBody i ⟨(S.body i).data.take m, min (S.body i).safe m⟩ with used := u } { L with vals := L.vals.set i (.slice a m c) } := by
  obtain ⟨T, hT⟩ : ∃ T : Drv, T = { S with used := u } := ⟨_, rfl⟩
  have hb : T.body i = S.body i := by rw [hT]; rfl
  have hl : T.len i = S.len i := by rw [hT]; rfl
  have hiT : i < T.bodies.length := by rw [hT]; exact hi
  have h1 : DrvAt (w.setCell ⟨p, 1, none⟩ (.int .i64 u)).drew p T L := by rw [hT]; exact h.setUsed1 u
  have hrow := h1.data i hiT
  rw [hv, hl] at hrow
  have hrow2 := ownsRow_take (m := m) hrow (Nat.le_of_lt hm) (by omega)
  have hlen : ((T.body i).data.take m).length = m := by
    have : (T.body i).data.length = T.len i := rfl
    rw [List.length_take]; omega
  have h2 := h1.setData hiT (v := .slice a m c) (bs := (T.body i).data.take m) (by rw [hlen]; exact hrow2) (World.grownBy.refl _ _) (.inl (by rw [hv]; cases a <;> rfl))
  have hi2 : i < (T.setBody i ⟨(T.body i).data.take m, (T.body i).safe⟩).bodies.length := by rw [Drv.setBody_length]; exact hiT
  have h3 := h2.setSafe hi2 (min (T.body i).safe m)
  rw [Drv.setBody_same T hiT, setBody_twice, hb] at h3
  subst hT
  exact h3

set_option maxRecDepth 100000 in
theorem cut_any (p : Nat) (S : Drv) (F : Nat → Prop) (s : ByteArray) (n : Int) (w : World) (hs : s.size ≤ maxLen) (hd : Dr w p S F) (hS : S.Small) :
    Calls Tryz.prog 101 #[.pointer (some ⟨p, 0, none⟩), .string s, .int .i64 n] w fun e w' =>
      e = .returned (.int .i64 (S.cut s.data.toList n).2) ∧ Dr w' p (S.cut s.data.toList n).1 (grow F w w') ∧ Touch F w w' := by
  obtain ⟨addr, hd⟩ := hd
  have HF := Lib.hid (find_any p S addr F s w hs hd)
  have HN := Lib.hid (fun W => named_any s W hs)
  have HD := Lib.hid hd
  by_cases hnn : named s.data.toList = true ∧ n < 0
  · have HR : Hid (S.cut s.data.toList n = (S, 2)) := Lib.hid (by unfold Drv.cut; rw [if_pos hnn])
    obtain ⟨hn1, hn2⟩ := hnn
    clear hd hS
    rw [HR.out]
    go_enter Tryz.func101, Tryz.ntmps101
    go_wp2_with fail
    refine (HN.out _).mono ?_
    rintro e w' ⟨rfl, rfl⟩
    rw [hn1]
    go_wp2
    go_ret
    exact ⟨rfl, ⟨_, HD.out.mono fun k h => .inl h⟩, Touch.refl _ _⟩
  · rcases find_cases S s.data.toList with ⟨hf, he⟩ | ⟨i, hf, hg⟩
    · obtain ⟨x, hx⟩ : ∃ x, x = (S.find s.data.toList).2 := ⟨_, rfl⟩
      rw [← hx] at hf he
      have HR : Hid (S.cut s.data.toList n = (S, x)) := Lib.hid (by unfold Drv.cut; rw [if_neg hnn, hf])
      rw [hf] at HF
      simp only [ptrO] at HF
      have hne : (x != 0) = true := by rcases he with rfl | rfl <;> rfl
      rw [HR.out]
      clear hd hx hf he hS
      by_cases hn1 : named s.data.toList = true
      · have hn2 : ¬n < 0 := fun h => hnn ⟨hn1, h⟩
        clear hnn
        go_enter Tryz.func101, Tryz.ntmps101
        go_wp2_with fail
        refine (HN.out _).mono ?_
        rintro e w' ⟨rfl, rfl⟩
        rw [hn1]
        go_wp2_with (go_at_call 67; refine HF.out.mono ?_; rintro e w' ⟨rfl, rfl⟩)
        go_ret
        exact ⟨rfl, ⟨_, HD.out.mono fun k h => .inl h⟩, Touch.refl _ _⟩
      · have hn1' : named s.data.toList = false := by simpa using hn1
        clear hnn hn1
        go_enter Tryz.func101, Tryz.ntmps101
        go_wp2_with fail
        refine (HN.out _).mono ?_
        rintro e w' ⟨rfl, rfl⟩
        rw [hn1']
        go_wp2_with (go_at_call 67; refine HF.out.mono ?_; rintro e w' ⟨rfl, rfl⟩)
        go_ret
        exact ⟨rfl, ⟨_, HD.out.mono fun k h => .inl h⟩, Touch.refl _ _⟩
    · have hn1 : named s.data.toList = true := (find_some hf).2
      have hn2 : ¬n < 0 := fun h => hnn ⟨hn1, h⟩
      rw [hf] at HF
      simp only [ptrO] at HF
      obtain ⟨L, rfl, hD, hFo⟩ := hd
      have hil : i < S.bodies.length := by rw [← hD.la]; exact hD.now.dget_lt _ (by rw [len_size]; exact hs) hg
      obtain ⟨a, c, hv, hnc⟩ := own_shape (hD.data i hil)
      have hc : w.cell? ⟨adrOf L.addr i, 0, none⟩ = some (.slice a (S.len i) c) := by have := (hD.body i hil).cell 0; rw [hv] at this; exact this
      have hlen := hS.len i
      by_cases hge : (S.len i : Int) ≤ n
      · have HR : Hid (S.cut s.data.toList n = (S, 0)) := Lib.hid (by unfold Drv.cut; rw [if_neg hnn, hf]; simp only; rw [if_pos hge])
        rw [HR.out]
        clear hD hf hg hS hnn hv
        go_enter Tryz.func101, Tryz.ntmps101
        go_wp2_with fail
        refine (HN.out _).mono ?_
        rintro e w' ⟨rfl, rfl⟩
        rw [hn1]
        go_wp2_with (go_at_call 67; refine HF.out.mono ?_; rintro e w' ⟨rfl, rfl⟩)
        go_ret
        exact ⟨rfl, ⟨_, HD.out.mono fun k h => .inl h⟩, Touch.refl _ _⟩
      · obtain ⟨m, rfl⟩ := Int.eq_ofNat_of_zero_le (Int.not_lt.1 hn2)
        have hml : m < S.len i := by omega
        have hmc : m ≤ c := by omega
        have HR : Hid (S.cut s.data.toList m = (S.cutTo i m, 0)) := Lib.hid (by unfold Drv.cut; rw [if_neg hnn, hf]; simp only; rw [if_neg hge]; rfl)
        rw [HR.out]
        have hc1 : w.cell? ⟨adrOf L.addr i, 1, none⟩ = some (.int .i64 (S.body i).safe) := (hD.body i hil).cell 1
        have hc0f : w.frozen? ⟨adrOf L.addr i, 0, none⟩ = false := (hD.body i hil).frozen 0
        have hc1f : w.frozen? ⟨adrOf L.addr i, 1, none⟩ = false := (hD.body i hil).frozen 1
        have h1 : w.cell? ⟨p, 1, none⟩ = some (.int .i64 S.used) := hD.head.cell 1
        have h1f : w.frozen? ⟨p, 1, none⟩ = false := hD.head.frozen 1
        have hap : adrOf L.addr i ≠ p := (hD.body i hil).ne_ hD.head (by decide)
        have hu := hS.used
        have hpos := hS.pos
        have hFi : F (adrOf L.addr i) := hFo _ (.inr (.inr (.inr (.inl (getD_mem 0 (by rw [hD.la]; exact hil))))))
        have hFp : F p := hFo _ (.inl rfl)
        have HE := Lib.hid (hD.cutOff hil hv hml (S.used - ((S.len i : Int) - m)))
        have HFO := Lib.hid hFo
        have HV := Lib.hid hv
        have hsf := hS.safe i
        have hlv : i < L.vals.length := by rw [hD.lv]; exact hil
        clear hD hf hg hS hnn hv hFo hge hn2
        go_enter Tryz.func101, Tryz.ntmps101
        go_wp2_with fail
        refine (HN.out _).mono ?_
        rintro e w' ⟨rfl, rfl⟩
        rw [hn1]
        go_wp2_with (go_at_call 67; refine HF.out.mono ?_; rintro e w' ⟨rfl, rfl⟩)
        go_region
        all_goals go_wp2
        go_ret
        have hmin : min ((S.body i).safe : Int) (m : Int) = ((min (S.body i).safe m : Nat) : Int) := by omega
        rw [hmin]
        refine ⟨rfl, ⟨_, _, rfl, HE.out, ?_⟩, ?_⟩
        · rintro k (h | h | h | h | ⟨v, h, hv⟩ | h | h)
          · exact .inl (HFO.out _ (.inl h))
          · exact .inl (HFO.out _ (.inr (.inl h)))
          · exact .inl (HFO.out _ (.inr (.inr (.inl h))))
          · exact .inl (HFO.out _ (.inr (.inr (.inr (.inl h)))))
          · rcases List.mem_or_eq_of_mem_set h with h | h
            · exact .inl (HFO.out _ (.inr (.inr (.inr (.inr (.inl ⟨v, h, hv⟩))))))
            · subst h
              exact .inl (HFO.out _ (.inr (.inr (.inr (.inr (.inl ⟨L.val i, getD_mem _ (hlv), by rw [HV.out]; cases a <;> exact hv⟩))))))
          · exact .inl (HFO.out _ (.inr (.inr (.inr (.inr (.inr (.inl h)))))))
          · exact .inl (HFO.out _ (.inr (.inr (.inr (.inr (.inr (.inr h)))))))
        · exact (((Touch.setCell _ _ _ hFp).trans (Touch.drewN _ 1)).trans (Touch.setCell _ ⟨adrOf L.addr i, 0, none⟩ (.slice a m c) (.inl hFi))).trans (Touch.setCell _ _ _ (.inl hFi))
end Go.Proofs.YtcbebefdbdppdaaGreat
namespace Go.Proofs.YtcbebefdbdppdaaGreat
open Go.RowKit Go.Maps

def xorAt (d : List UInt8) (a : Nat) (pat : List UInt8) : Nat → List UInt8
  | 0 => d
  | k + 1 => (xorAt d a pat k).set (a + k) ((xorAt d a pat k).getD (a + k) 0 ^^^ pat.getD k 0)
theorem xorAt_length (d : List UInt8) (a : Nat) (pat : List UInt8) : ∀ k, (xorAt d a pat k).length = d.length
  | 0 => rfl
  | k + 1 => by simp only [xorAt, List.length_set]; exact xorAt_length d a pat k
def Drv.flipTo (S : Drv) (i a : Nat) (pat : List UInt8) (k : Nat) : Drv := S.setBody i ⟨xorAt (S.body i).data a pat k, (S.body i).safe⟩
def Drv.flip (S : Drv) (s : Nm) (n : Int) (pat : List UInt8) : Drv × Int :=
  if named s = true ∧ n < 0 then (S, 2) else
  match S.find s with
  | (none, e) => (S, e)
  | (some i, _) => if (S.len i : Int) ≤ n then (S, 0) else (S.flipTo i n.toNat pat (min pat.length (S.len i - n.toNat)), 0)

theorem Drv.flipTo_inv {S : Drv} {N i a k : Nat} {pat : List UInt8} (h : S.Inv N) (hm : i ∈ refs S.now) : (S.flipTo i a pat k).Inv N := by
  have hi := h.rlt i hm
  have hl : ∀ j, (S.flipTo i a pat k).len j = S.len j := fun j => by
    unfold Drv.flipTo
    rw [setBody_len S hi]
    split
    · rename_i e; subst e; exact xorAt_length _ _ _ _
    · rfl
  exact { h with
    rlt := fun j hj => by
      show j < (S.setBody i _).bodies.length
      rw [Drv.setBody_length]; exact h.rlt j hj
    used := by rw [Drv.sum_same (S := S) fun j _ => hl j]; exact h.used
    len := fun j => by rw [hl]; exact h.len j
    safe := fun j => by
      rw [hl]
      by_cases e : j = i
      · subst e; unfold Drv.flipTo; rw [Drv.setBody_same S hi]; exact h.safe j
      · unfold Drv.flipTo; rw [Drv.setBody_other S e]; exact h.safe j }
theorem Drv.flip_inv {S : Drv} {N : Nat} (h : S.Inv N) (s : Nm) (n : Int) (pat : List UInt8) : (S.flip s n pat).1.Inv N := by
  unfold Drv.flip
  split
  · exact h
  · split
    · exact h
    · rename_i i e hf
      split
      · exact h
      · exact Drv.flipTo_inv h (refs_mem h.tnow (find_some hf).1)
theorem Drv.flip_room (S : Drv) (s : Nm) (n : Int) (pat : List UInt8) : (S.flip s n pat).1.room = S.room := by
  unfold Drv.flip Drv.flipTo Drv.setBody
  repeat' (first | rfl | split)

theorem size_set' (w : World) (p : Addr) (u : Value) : (w.setCell p u).heap.size = w.heap.size := by simp [World.setCell]

theorem setCell_same {w : World} {a : Addr} {v : Value} (h : w.cell? a = some v) : w.setCell a v = w := by
  obtain ⟨heap, t1, t2, t3, t4⟩ := w
  obtain ⟨b, off, spot⟩ := a
  unfold World.cell? at h
  unfold World.setCell
  congr 1
  apply Array.ext_getElem?
  intro k
  rw [Array.getElem?_modify]
  split
  · rename_i e
    subst e
    cases hb : heap[b]? with
    | none => rfl
    | some o =>
      rw [hb] at h
      simp only [Option.map_some]
      cases o <;> simp only at h ⊢
      rename_i c t f
      cases spot with
      | some s => simp at h
      | none =>
        simp only [Option.isSome_none, Bool.false_eq_true, if_false] at h ⊢
        congr 2
        apply Array.ext_getElem?
        intro j
        rw [Array.getElem?_setIfInBounds]
        split
        · rename_i e; subst e
          split
          · exact h.symm
          · rename_i hlt; rw [Array.getElem?_eq_none (by omega)]
        · rfl
  · rfl

theorem ownsRow_set {w : World} {base n g c j : Nat} {e : TypeId} {xs : List Value} (h : w.ownsRow base e 1 (.slice (some ⟨g, 0, none⟩) n c) n xs) (u : Value) :
    (w.setCell ⟨g, j, none⟩ u).ownsRow base e 1 (.slice (some ⟨g, 0, none⟩) n c) n (xs.set j u) := by
  obtain ⟨h1, h2⟩ := h
  rcases h2 with ⟨h3, _⟩ | ⟨g', cap, cur, h3, h4, h5, h6, h7, h8, h9⟩
  · cases h3
  · injection h3 with e1 _ e3
    injection e1 with e1
    injection e1 with e1
    subst e1 e3
    have hb : Blk w g e cur := h5
    refine ⟨by rw [List.length_set]; exact h1, .inr ⟨g, c, _, rfl, h4, hb.set_ j u, h6, h7, ?_, ?_⟩⟩
    · simp; omega
    · simp only [Array.toList_setIfInBounds]
      rw [List.take_set, h9]

theorem DrvAt.setByte {w : World} {p : Nat} {S : Drv} {L : Lay} (h : DrvAt w p S L) {i j g c : Nat} (hi : i < S.bodies.length) (hv : L.val i = .slice (some ⟨g, 0, none⟩) (S.len i) c) (b : UInt8) :
    DrvAt (w.setCell ⟨g, j, none⟩ (B8 b)) p (S.setBody i ⟨(S.body i).data.set j b, (S.body i).safe⟩) L := by
  have hrow := h.data i hi
  rw [hv] at hrow
  have hr2 := ownsRow_set (j := j) hrow (B8 b)
  rw [← List.map_set] at hr2
  have hg : w.grownBy (w.setCell ⟨g, j, none⟩ (B8 b)) (L.val i).ownBlock := ⟨rfl, rfl, rfl, by simp [World.setCell], fun k _ hk => Below.heap_setCell w ⟨g, j, none⟩ _ k (fun e => hk (by rw [hv, e]; rfl))⟩
  have hd := h.setData hi (v := L.val i) (bs := (S.body i).data.set j b) (by rw [List.length_set, hv]; exact hr2) hg (.inl rfl)
  have hne : g ≠ L.adr i := fun e => own_blk_ne hrow (h.body i hi) (by decide) (by rw [e]; rfl)
  have hc : (w.setCell ⟨g, j, none⟩ (B8 b)).cell? ⟨L.adr i, 0, none⟩ = some (L.val i) := (World.cell?_of_block (Below.heap_setCell w ⟨g, j, none⟩ _ _ (Ne.symm hne))).trans ((h.body i hi).cell 0)
  rw [setCell_same hc] at hd
  have hl : L.vals.set i (L.val i) = L.vals := by
    have hil : i < L.vals.length := by rw [h.lv]; exact hi
    unfold Lay.val
    apply List.ext_getElem?
    intro k
    rw [List.getElem?_set]
    split
    · rename_i e; subst e; simp [List.getD, hil]
    · rfl
  rw [hl] at hd
  exact hd

theorem bits_xor_u8 (a b : UInt8) : bits .xor .u8 (a.toNat : Int) (b.toNat : Int) = ((a ^^^ b).toNat : Int) := by
  have ha := a.toNat_lt
  have hb := b.toNat_lt
  have hx : a.toNat ^^^ b.toNat < 2 ^ 8 := Nat.xor_lt_two_pow (by omega) (by omega)
  have h1 : (BitVec.ofInt 8 (a.toNat : Int)).toNat = a.toNat := by rw [BitVec.ofInt_natCast, BitVec.toNat_ofNat]; exact Nat.mod_eq_of_lt (by omega)
  have h2 : (BitVec.ofInt 8 (b.toNat : Int)).toNat = b.toNat := by rw [BitVec.ofInt_natCast, BitVec.toNat_ofNat]; exact Nat.mod_eq_of_lt (by omega)
  show IntKind.u8.wrap ((BitVec.ofInt 8 (a.toNat : Int) ^^^ BitVec.ofInt 8 (b.toNat : Int)).toNat : Int) = _
  rw [BitVec.toNat_xor, h1, h2, UInt8.toNat_xor]
  unfold IntKind.wrap
  simp [IntKind.bits, IntKind.signed]
  omega

/-- The bytes behind 'at' turned by a pattern that lies apart. -/
theorem xor_cell (a b : UInt8) : Value.int .u8 (bits .xor .u8 (a.toNat : Int) (b.toNat : Int)) = B8 (a ^^^ b) := by rw [bits_xor_u8]; rfl

set_option maxRecDepth 100000 in
theorem flip_any (p : Nat) (S : Drv) (F : Nat → Prop) (s : ByteArray) (n : Int) (A : Option Addr) (c0 : Nat) (bs : List UInt8) (w : World) (hs : s.size ≤ maxLen) (hd : Dr w p S F) (hS : S.Small)
    (hr : Reads w w.heap.size 1 A bs.length (bs.map B8)) (hap : ∀ ad, A = some ad → ¬F ad.block) (hcl : bs.length ≤ c0) (hbl : bs.length ≤ 140737488351232) :
    Calls Tryz.prog 19 #[.pointer (some ⟨p, 0, none⟩), .string s, .int .i64 n, .slice A bs.length c0] w fun e w' =>
      e = .returned (.int .i64 (S.flip s.data.toList n bs).2) ∧ Dr w' p (S.flip s.data.toList n bs).1 (grow F w w') ∧ Touch F w w' := by
  obtain ⟨addr, hd⟩ := hd
  have HF := Lib.hid (find_any p S addr F s w hs hd)
  have HN := Lib.hid (fun W => named_any s W hs)
  have HD := Lib.hid hd
  by_cases hnn : named s.data.toList = true ∧ n < 0
  · have HR : Hid (S.flip s.data.toList n bs = (S, 2)) := Lib.hid (by unfold Drv.flip; rw [if_pos hnn])
    obtain ⟨hn1, hn2⟩ := hnn
    clear hd hS hr hap
    rw [HR.out]
    go_enter Tryz.func19, Tryz.ntmps19
    go_wp2_with fail
    refine (HN.out _).mono ?_
    rintro e w' ⟨rfl, rfl⟩
    rw [hn1]
    go_wp2
    go_ret
    exact ⟨rfl, ⟨_, HD.out.mono fun k h => .inl h⟩, Touch.refl _ _⟩
  · rcases find_cases S s.data.toList with ⟨hf, he⟩ | ⟨i, hf, hg⟩
    · obtain ⟨x, hx⟩ : ∃ x, x = (S.find s.data.toList).2 := ⟨_, rfl⟩
      rw [← hx] at hf he
      have HR : Hid (S.flip s.data.toList n bs = (S, x)) := Lib.hid (by unfold Drv.flip; rw [if_neg hnn, hf])
      rw [hf] at HF
      simp only [ptrO] at HF
      have hne : (x != 0) = true := by rcases he with rfl | rfl <;> rfl
      rw [HR.out]
      clear hd hx hf he hS hr hap
      by_cases hn1 : named s.data.toList = true
      · have hn2 : ¬n < 0 := fun h => hnn ⟨hn1, h⟩
        clear hnn
        go_enter Tryz.func19, Tryz.ntmps19
        go_wp2_with fail
        refine (HN.out _).mono ?_
        rintro e w' ⟨rfl, rfl⟩
        rw [hn1]
        go_wp2_with (go_at_call 67; refine HF.out.mono ?_; rintro e w' ⟨rfl, rfl⟩)
        go_ret
        exact ⟨rfl, ⟨_, HD.out.mono fun k h => .inl h⟩, Touch.refl _ _⟩
      · have hn1' : named s.data.toList = false := by simpa using hn1
        clear hnn hn1
        go_enter Tryz.func19, Tryz.ntmps19
        go_wp2_with fail
        refine (HN.out _).mono ?_
        rintro e w' ⟨rfl, rfl⟩
        rw [hn1']
        go_wp2_with (go_at_call 67; refine HF.out.mono ?_; rintro e w' ⟨rfl, rfl⟩)
        go_ret
        exact ⟨rfl, ⟨_, HD.out.mono fun k h => .inl h⟩, Touch.refl _ _⟩
    · have hn1 : named s.data.toList = true := (find_some hf).2
      have hn2 : ¬n < 0 := fun h => hnn ⟨hn1, h⟩
      rw [hf] at HF
      simp only [ptrO] at HF
      obtain ⟨L, rfl, hD, hFo⟩ := hd
      have hil : i < S.bodies.length := by rw [← hD.la]; exact hD.now.dget_lt _ (by rw [len_size]; exact hs) hg
      obtain ⟨a, c, hv, hnc⟩ := own_shape (hD.data i hil)
      have hc : w.cell? ⟨adrOf L.addr i, 0, none⟩ = some (.slice a (S.len i) c) := by have := (hD.body i hil).cell 0; rw [hv] at this; exact this
      have hlen := hS.len i
      by_cases hge : (S.len i : Int) ≤ n
      · have HR : Hid (S.flip s.data.toList n bs = (S, 0)) := Lib.hid (by unfold Drv.flip; rw [if_neg hnn, hf]; simp only; rw [if_pos hge])
        rw [HR.out]
        clear hD hf hg hS hnn hv hr hap
        go_enter Tryz.func19, Tryz.ntmps19
        go_wp2_with fail
        refine (HN.out _).mono ?_
        rintro e w' ⟨rfl, rfl⟩
        rw [hn1]
        go_wp2_with (go_at_call 67; refine HF.out.mono ?_; rintro e w' ⟨rfl, rfl⟩)
        go_ret
        exact ⟨rfl, ⟨_, HD.out.mono fun k h => .inl h⟩, Touch.refl _ _⟩
      · obtain ⟨m, rfl⟩ := Int.eq_ofNat_of_zero_le (Int.not_lt.1 hn2)
        have hml : m < S.len i := by omega
        obtain ⟨r, hrr⟩ : ∃ r, r = min bs.length (S.len i - m) := ⟨_, rfl⟩
        have HR : Hid (S.flip s.data.toList m bs = (S.flipTo i m bs r, 0)) := Lib.hid (by unfold Drv.flip; rw [if_neg hnn, hf]; simp only; rw [if_neg hge, hrr]; rfl)
        rw [HR.out]
        have hFi : F (adrOf L.addr i) := hFo _ (.inr (.inr (.inr (.inl (getD_mem 0 (by rw [hD.la]; exact hil))))))
        obtain ⟨nb, hnb⟩ : ∃ nb, nb = bs.length := ⟨_, rfl⟩
        have hrl : r ≤ nb := by omega
        have hrl2 : r ≤ S.len i - m := by omega
        have hmin : min (nb : Int) ((S.len i : Int) - m) = (r : Int) := by omega
        have hmin2 : min (nb : Int) (((S.len i - m : Nat) : Int)) = (r : Int) := by omega
        rw [← hnb] at hr hcl hbl ⊢
        have hl0 : 0 < S.len i := by omega
        obtain ⟨g, rfl⟩ : ∃ g, a = some ⟨g, 0, none⟩ := by
          have := hD.data i hil
          rw [hv] at this
          rcases this.2 with ⟨_, h0⟩ | ⟨g, _, _, e, _⟩
          · have : (S.body i).data.length = S.len i := rfl
            omega
          · injection e with e; exact ⟨g, e⟩
        have hFg : F g := hFo _ (.inr (.inr (.inr (.inr (.inl ⟨L.val i, getD_mem _ (by rw [hD.lv]; exact hil), by rw [hv]; rfl⟩)))))
        have HDD := Lib.hid hD
        have HFO := Lib.hid hFo
        have HV := Lib.hid hv
        have HRD := Lib.hid hr
        have HAP := Lib.hid hap
        have HNB := Lib.hid hnb
        have HI : Hid (DrvAt w p (S.flipTo i m bs 0) L ∧ Touch F w w ∧ w.heap.size = w.heap.size) := Lib.hid ⟨by
          have e : S.flipTo i m bs 0 = S := by
            unfold Drv.flipTo Drv.setBody xorAt
            have hl : S.bodies.set i ⟨(S.body i).data, (S.body i).safe⟩ = S.bodies := by
              apply List.ext_getElem?
              intro k
              rw [List.getElem?_set]
              split
              · rename_i e; subst e; simp [Drv.body, List.getD, hil]
              · rfl
            rw [hl]
          rw [e]; exact hD, Touch.refl _ _, rfl⟩
        clear hD hf hg hS hnn hv hFo hge hn2 hr hap hrr hnb
        go_enter Tryz.func19, Tryz.ntmps19
        go_wp2_with fail
        refine (HN.out _).mono ?_
        rintro e w' ⟨rfl, rfl⟩
        rw [hn1]
        go_wp2_with (go_at_call 67; refine HF.out.mono ?_; rintro e w' ⟨rfl, rfl⟩)
        go_loopw [56] (fun s wr => ∃ k : Nat, k ≤ r ∧ s = .int .i64 k ∧ DrvAt wr p (S.flipTo i m bs k) L ∧ Touch F w wr ∧ wr.heap.size = w.heap.size) (fun s _ => r - (intOf s).toNat)
        case atStart => exact ⟨0, Nat.zero_le _, rfl, HI.out.1, HI.out.2.1, rfl⟩
        case round =>
          obtain ⟨k, hk, rfl, hdw, htw, hsz⟩ := hrel
          by_cases hlt : k < r
          · obtain ⟨ad, u, rfl, _, hu, hcu⟩ := HRD.out.at_ (k := k) (by omega)
            obtain ⟨b, hb, rfl⟩ : ∃ b, bs[k]? = some b ∧ B8 b = u := by simpa [List.getElem?_map] using hu
            have hnF := HAP.out ad rfl
            have hcw : wr.cell? (ad.add k) = some (.int .u8 (b.toNat : Int)) := by
              rw [World.cell?_of_block (htw.block _ (by rw [block_of_add]; exact (by have := World.block_lt_of_cell? w _ hcu; rwa [block_of_add] at this)) (by rw [block_of_add]; exact hnF))]
              exact hcu
            obtain ⟨x, hx⟩ : ∃ x, (xorAt (S.body i).data m bs k)[m + k]? = some x := ⟨_, List.getElem?_eq_getElem (by rw [xorAt_length]; have : (S.body i).data.length = S.len i := rfl; omega)⟩
            have hle : (S.flipTo i m bs k).len i = S.len i := by unfold Drv.flipTo Drv.len; rw [Drv.setBody_same S hil]; exact xorAt_length _ _ _ _
            have hrow := hdw.data i (by unfold Drv.flipTo; rw [Drv.setBody_length]; exact hil)
            rw [HV.out, hle] at hrow
            have hdt : ((S.flipTo i m bs k).body i).data = xorAt (S.body i).data m bs k := by unfold Drv.flipTo; rw [Drv.setBody_same S hil]
            rw [hdt] at hrow
            have hgc : wr.cell? ⟨g, m + k, none⟩ = some (.int .u8 (x.toNat : Int)) := by
              obtain ⟨ad2, u2, e2, _, hu2, hc2⟩ := (Reads.of_own hrow).at_ (k := m + k) (by omega)
              injection e2 with e2
              subst e2
              rw [List.getElem?_map, hx] at hu2
              injection hu2 with hu2
              subst hu2
              rw [add_plain] at hc2
              rw [Nat.zero_add] at hc2
              exact hc2
            have hgf : wr.frozen? ⟨g, m + k, none⟩ = false := by
              rcases hrow.2 with ⟨h0, _⟩ | ⟨g', cap, cur, h3, _, h5, _⟩
              · cases h0
              · injection h3 with e1; injection e1 with e1; injection e1 with e1; subst e1
                exact (show Blk wr g _ cur from h5).frozen _
            have HNX : Hid (DrvAt (wr.setCell ⟨g, m + k, none⟩ (B8 (x ^^^ b))) p (S.flipTo i m bs (k + 1)) L) := Lib.hid (by
              have h1 := hdw.setByte (i := i) (j := m + k) (g := g) (c := c) (by unfold Drv.flipTo; rw [Drv.setBody_length]; exact hil) (by rw [hle]; exact HV.out) (x ^^^ b)
              rw [hdt] at h1
              have e : ((S.flipTo i m bs k).setBody i ⟨(xorAt (S.body i).data m bs k).set (m + k) (x ^^^ b), ((S.flipTo i m bs k).body i).safe⟩) = S.flipTo i m bs (k + 1) := by
                unfold Drv.flipTo
                rw [setBody_twice, Drv.setBody_same S hil]
                simp only [xorAt]
                rw [List.getD_eq_getElem?_getD, hx, List.getD_eq_getElem?_getD, hb]
                rfl
              rw [e] at h1
              exact h1)
            have HXC := Lib.hid (xor_cell x b)
            have HTN : Hid (Touch F w (wr.setCell ⟨g, m + k, none⟩ (B8 (x ^^^ b)))) := Lib.hid (htw.trans (Touch.setCell _ _ _ (.inl hFg)))
            have HSZ : Hid ((wr.setCell ⟨g, m + k, none⟩ (B8 (x ^^^ b))).heap.size = w.heap.size) := Lib.hid (by rw [size_set']; exact hsz)
            clear hdw htw hsz hu hcu hb hx hle hrow hdt
            go_wp2
            rw [HXC.out]
            go_roundw
            case rel => exact ⟨k + 1, by omega, by go_num, HNX.out, HTN.out, HSZ.out⟩
            case measure => simp [intOf]; omega
          · have hkr : k = r := by omega
            subst hkr
            have HDW := Lib.hid hdw
            have HTW := Lib.hid htw
            clear hdw htw hsz
            go_wp2
            go_ret
            exact ⟨rfl, ⟨_, L, rfl, HDW.out, fun k h => .inl (HFO.out k h)⟩, HTW.out⟩
end Go.Proofs.YtcbebefdbdppdaaGreat
