/- The drive's Cut: the pure law, that it keeps the invariant, its contract. -/
import Derived.Test.YtdmcjomcbhdcbaaPi
namespace Go.Proofs.Ytdmcjomcbhdcbaa
open Go.RowKit Go.Maps

def Drv.cutTo (S : Drv) (i m : Nat) : Drv := { S.setBody i ⟨(S.body i).data.take m, min (S.body i).safe m⟩ with used := S.used - ((S.len i : Int) - m) }
def Drv.cut (S : Drv) (s : Nm) (n : Int) : Drv × Int :=
  if named s = true ∧ n < 0 then (S, 2) else
  match S.find s with
  | (none, e) => (S, e)
  | (some i, _) => if (S.len i : Int) ≤ n then (S, 0) else (S.cutTo i n.toNat, 0)

theorem Drv.cutTo_inv {S : Drv} {N i m : Nat} (h : S.Inv N) (hm : i ∈ refs S.now) (hlt : m < S.len i) : (S.cutTo i m).Inv N := by
  have hi := h.rlt i hm
  have hl : ∀ j, (S.cutTo i m).len j = if j = i then m else S.len j := fun j => by
    have : (S.cutTo i m).len j = (S.setBody i ⟨(S.body i).data.take m, min (S.body i).safe m⟩).len j := rfl
    rw [this, setBody_len S hi, List.length_take]
    have : (S.body i).data.length = S.len i := rfl
    split
    · omega
    · rfl
  have hb : ∀ j, (S.cutTo i m).body j = (S.setBody i ⟨(S.body i).data.take m, min (S.body i).safe m⟩).body j := fun j => rfl
  exact { h with
    rlt := fun j hj => by
      show j < (S.setBody i _).bodies.length
      rw [Drv.setBody_length]; exact h.rlt j hj
    used := by
      have e := Drv.sum_one (S := S.cutTo i m) (T := S) (n := S.len i - m) h.nodup hm (by rw [hl, if_pos rfl]; omega) (fun j hj => by rw [hl, if_neg hj])
      have hu := h.used
      show S.used - ((S.len i : Int) - m) = (((S.cutTo i m).sum (refs S.now) : Nat) : Int)
      rw [hu, e]
      omega
    len := fun j => by
      rw [hl]
      show _ ≤ S.room
      have := h.len i
      split
      · omega
      · exact h.len j
    safe := fun j => by
      rw [hl, hb]
      by_cases e : j = i
      · subst e; rw [Drv.setBody_same S hi, if_pos rfl]; exact Nat.min_le_right _ _
      · rw [Drv.setBody_other S e, if_neg e]; exact h.safe j }

theorem Drv.cut_inv {S : Drv} {N : Nat} (h : S.Inv N) (s : Nm) (n : Int) : (S.cut s n).1.Inv N := by
  unfold Drv.cut
  split
  · exact h
  · rename_i hneg
    split
    · exact h
    · rename_i i e hf
      split
      · exact h
      · rename_i hlt
        obtain ⟨hg, hn⟩ := find_some hf
        have hn0 : 0 ≤ n := Int.not_lt.1 fun h1 => hneg ⟨hn, h1⟩
        exact Drv.cutTo_inv h (refs_mem h.tnow hg) (by omega)
theorem Drv.cut_room (S : Drv) (s : Nm) (n : Int) : (S.cut s n).1.room = S.room := by
  unfold Drv.cut Drv.cutTo Drv.setBody
  repeat' (first | rfl | split)

theorem ownsRow_take {w : World} {base : Nat} {e : TypeId} {a : Option Addr} {n c m : Nat} {bs : List UInt8} (h : w.ownsRow base e 1 (.slice a n c) n (bs.map B8)) (hm : m ≤ n) (hn : 0 < n) :
    w.ownsRow base e 1 (.slice a m c) m ((bs.take m).map B8) := by
  obtain ⟨h1, h2⟩ := h
  rcases h2 with ⟨h3, h4⟩ | ⟨g, cap, cur, h3, h4, h5, h6, h7, h8, h9⟩
  · omega
  · injection h3 with e1 _ e3
    subst e1 e3
    refine ⟨?_, .inr ⟨g, c, cur, rfl, h4, h5, by omega, h7, h8, ?_⟩⟩
    · simp only [List.length_map] at h1
      simp only [List.length_map, List.length_take]
      omega
    · rw [List.map_take, ← h9, List.take_take]
      congr 1
      omega

theorem setBody_twice (S : Drv) (i : Nat) (A B : Body) : (S.setBody i A).setBody i B = S.setBody i B := by
  simp [Drv.setBody]

/-- A body cut off: the used bytes, the row's end, the safe count, written one after the other. -/
theorem DrvAt.cutOff {w : World} {p : Nat} {S : Drv} {L : Lay} (h : DrvAt w p S L) {i m c : Nat} {a : Option Addr} (hi : i < S.bodies.length) (hv : L.val i = .slice a (S.len i) c) (hm : m < S.len i) (u : Int) :
    DrvAt (((w.setCell ⟨p, 1, none⟩ (.int .i64 u)).drew.setCell ⟨L.adr i, 0, none⟩ (.slice a m c)).setCell ⟨L.adr i, 1, none⟩ (.int .i64 ((min (S.body i).safe m : Nat) : Int))) p
      { S.setBody i ⟨(S.body i).data.take m, min (S.body i).safe m⟩ with used := u } { L with vals := L.vals.set i (.slice a m c) } := by
  obtain ⟨T, hT⟩ : ∃ T : Drv, T = { S with used := u } := ⟨_, rfl⟩
  have hb : T.body i = S.body i := by rw [hT]; rfl
  have hl : T.len i = S.len i := by rw [hT]; rfl
  have hiT : i < T.bodies.length := by rw [hT]; exact hi
  have h1 : DrvAt (w.setCell ⟨p, 1, none⟩ (.int .i64 u)).drew p T L := by rw [hT]; exact h.setUsed1 u
  have hrow := h1.data i hiT
  rw [hv, hl] at hrow
  have hrow2 := ownsRow_take (m := m) hrow (Nat.le_of_lt hm) (by omega)
  have hlen : ((T.body i).data.take m).length = m := by
    have : (T.body i).data.length = T.len i := rfl
    rw [List.length_take]; omega
  have h2 := h1.setData hiT (v := .slice a m c) (bs := (T.body i).data.take m) (by rw [hlen]; exact hrow2) (World.grownBy.refl _ _) (.inl (by rw [hv]; cases a <;> rfl))
  have hi2 : i < (T.setBody i ⟨(T.body i).data.take m, (T.body i).safe⟩).bodies.length := by rw [Drv.setBody_length]; exact hiT
  have h3 := h2.setSafe hi2 (min (T.body i).safe m)
  rw [Drv.setBody_same T hiT, setBody_twice, hb] at h3
  subst hT
  exact h3

set_option maxRecDepth 100000 in
theorem cut_any (p : Nat) (S : Drv) (F : Nat → Prop) (s : ByteArray) (n : Int) (w : World) (hs : s.size ≤ maxLen) (hd : Dr w p S F) (hS : S.Small) :
    Calls Try.prog 68 #[.pointer (some ⟨p, 0, none⟩), .string s, .int .i64 n] w fun e w' =>
      e = .returned (.int .i64 (S.cut s.data.toList n).2) ∧ Dr w' p (S.cut s.data.toList n).1 (grow F w w') ∧ Touch F w w' := by
  obtain ⟨addr, hd⟩ := hd
  have HF := Lib.hid (find_any p S addr F s w hs hd)
  have HN := Lib.hid (fun W => named_any s W hs)
  have HD := Lib.hid hd
  by_cases hnn : named s.data.toList = true ∧ n < 0
  · have HR : Hid (S.cut s.data.toList n = (S, 2)) := Lib.hid (by unfold Drv.cut; rw [if_pos hnn])
    obtain ⟨hn1, hn2⟩ := hnn
    clear hd hS
    rw [HR.out]
    go_enter Try.func68, Try.ntmps68
    go_wp2_with fail
    refine (HN.out _).mono ?_
    rintro e w' ⟨rfl, rfl⟩
    rw [hn1]
    go_wp2
    go_ret
    exact ⟨rfl, ⟨_, HD.out.mono fun k h => .inl h⟩, Touch.refl _ _⟩
  · rcases find_cases S s.data.toList with ⟨hf, he⟩ | ⟨i, hf, hg⟩
    · obtain ⟨x, hx⟩ : ∃ x, x = (S.find s.data.toList).2 := ⟨_, rfl⟩
      rw [← hx] at hf he
      have HR : Hid (S.cut s.data.toList n = (S, x)) := Lib.hid (by unfold Drv.cut; rw [if_neg hnn, hf])
      rw [hf] at HF
      simp only [ptrO] at HF
      have hne : (x != 0) = true := by rcases he with rfl | rfl <;> rfl
      rw [HR.out]
      clear hd hx hf he hS
      by_cases hn1 : named s.data.toList = true
      · have hn2 : ¬n < 0 := fun h => hnn ⟨hn1, h⟩
        clear hnn
        go_enter Try.func68, Try.ntmps68
        go_wp2_with fail
        refine (HN.out _).mono ?_
        rintro e w' ⟨rfl, rfl⟩
        rw [hn1]
        go_wp2_with (go_at_call 70; refine HF.out.mono ?_; rintro e w' ⟨rfl, rfl⟩)
        go_ret
        exact ⟨rfl, ⟨_, HD.out.mono fun k h => .inl h⟩, Touch.refl _ _⟩
      · have hn1' : named s.data.toList = false := by simpa using hn1
        clear hnn hn1
        go_enter Try.func68, Try.ntmps68
        go_wp2_with fail
        refine (HN.out _).mono ?_
        rintro e w' ⟨rfl, rfl⟩
        rw [hn1']
        go_wp2_with (go_at_call 70; refine HF.out.mono ?_; rintro e w' ⟨rfl, rfl⟩)
        go_ret
        exact ⟨rfl, ⟨_, HD.out.mono fun k h => .inl h⟩, Touch.refl _ _⟩
    · have hn1 : named s.data.toList = true := (find_some hf).2
      have hn2 : ¬n < 0 := fun h => hnn ⟨hn1, h⟩
      rw [hf] at HF
      simp only [ptrO] at HF
      obtain ⟨L, rfl, hD, hFo⟩ := hd
      have hil : i < S.bodies.length := by rw [← hD.la]; exact hD.now.dget_lt _ (by rw [len_size]; exact hs) hg
      obtain ⟨a, c, hv, hnc⟩ := own_shape (hD.data i hil)
      have hc : w.cell? ⟨adrOf L.addr i, 0, none⟩ = some (.slice a (S.len i) c) := by have := (hD.body i hil).cell 0; rw [hv] at this; exact this
      have hlen := hS.len i
      by_cases hge : (S.len i : Int) ≤ n
      · have HR : Hid (S.cut s.data.toList n = (S, 0)) := Lib.hid (by unfold Drv.cut; rw [if_neg hnn, hf]; simp only; rw [if_pos hge])
        rw [HR.out]
        clear hD hf hg hS hnn hv
        go_enter Try.func68, Try.ntmps68
        go_wp2_with fail
        refine (HN.out _).mono ?_
        rintro e w' ⟨rfl, rfl⟩
        rw [hn1]
        go_wp2_with (go_at_call 70; refine HF.out.mono ?_; rintro e w' ⟨rfl, rfl⟩)
        go_ret
        exact ⟨rfl, ⟨_, HD.out.mono fun k h => .inl h⟩, Touch.refl _ _⟩
      · obtain ⟨m, rfl⟩ := Int.eq_ofNat_of_zero_le (Int.not_lt.1 hn2)
        have hml : m < S.len i := by omega
        have hmc : m ≤ c := by omega
        have HR : Hid (S.cut s.data.toList m = (S.cutTo i m, 0)) := Lib.hid (by unfold Drv.cut; rw [if_neg hnn, hf]; simp only; rw [if_neg hge]; rfl)
        rw [HR.out]
        have hc1 : w.cell? ⟨adrOf L.addr i, 1, none⟩ = some (.int .i64 (S.body i).safe) := (hD.body i hil).cell 1
        have hc0f : w.frozen? ⟨adrOf L.addr i, 0, none⟩ = false := (hD.body i hil).frozen 0
        have hc1f : w.frozen? ⟨adrOf L.addr i, 1, none⟩ = false := (hD.body i hil).frozen 1
        have h1 : w.cell? ⟨p, 1, none⟩ = some (.int .i64 S.used) := hD.head.cell 1
        have h1f : w.frozen? ⟨p, 1, none⟩ = false := hD.head.frozen 1
        have hap : adrOf L.addr i ≠ p := (hD.body i hil).ne_ hD.head (by decide)
        have hu := hS.used
        have hpos := hS.pos
        have hFi : F (adrOf L.addr i) := hFo _ (.inr (.inr (.inr (.inl (getD_mem 0 (by rw [hD.la]; exact hil))))))
        have hFp : F p := hFo _ (.inl rfl)
        have HE := Lib.hid (hD.cutOff hil hv hml (S.used - ((S.len i : Int) - m)))
        have HFO := Lib.hid hFo
        have HV := Lib.hid hv
        have hsf := hS.safe i
        have hlv : i < L.vals.length := by rw [hD.lv]; exact hil
        clear hD hf hg hS hnn hv hFo hge hn2
        go_enter Try.func68, Try.ntmps68
        go_wp2_with fail
        refine (HN.out _).mono ?_
        rintro e w' ⟨rfl, rfl⟩
        rw [hn1]
        go_wp2_with (go_at_call 70; refine HF.out.mono ?_; rintro e w' ⟨rfl, rfl⟩)
        go_region
        all_goals go_wp2
        go_ret
        have hmin : min ((S.body i).safe : Int) (m : Int) = ((min (S.body i).safe m : Nat) : Int) := by omega
        rw [hmin]
        refine ⟨rfl, ⟨_, _, rfl, HE.out, ?_⟩, ?_⟩
        · rintro k (h | h | h | h | ⟨v, h, hv⟩ | h | h)
          · exact .inl (HFO.out _ (.inl h))
          · exact .inl (HFO.out _ (.inr (.inl h)))
          · exact .inl (HFO.out _ (.inr (.inr (.inl h))))
          · exact .inl (HFO.out _ (.inr (.inr (.inr (.inl h)))))
          · rcases List.mem_or_eq_of_mem_set h with h | h
            · exact .inl (HFO.out _ (.inr (.inr (.inr (.inr (.inl ⟨v, h, hv⟩))))))
            · subst h
              exact .inl (HFO.out _ (.inr (.inr (.inr (.inr (.inl ⟨L.val i, getD_mem _ (hlv), by rw [HV.out]; cases a <;> exact hv⟩))))))
          · exact .inl (HFO.out _ (.inr (.inr (.inr (.inr (.inr (.inl h)))))))
          · exact .inl (HFO.out _ (.inr (.inr (.inr (.inr (.inr (.inr h)))))))
        · exact (((Touch.setCell _ _ _ hFp).trans (Touch.drewN _ 1)).trans (Touch.setCell _ ⟨adrOf L.addr i, 0, none⟩ (.slice a m c) (.inl hFi))).trans (Touch.setCell _ _ _ (.inl hFi))
end Go.Proofs.Ytdmcjomcbhdcbaa
