/- Contracts of the drive: Append. -/
import Derived.Test.YtdmcjomcbhdcbaaDi
import Derived.Test.YtdmcjomcbhdcbaaDd
namespace Go.Proofs.Ytdmcjomcbhdcbaa
open Go.RowKit Go.Maps

theorem byteInfo : (Try.prog.info? 5).map (fun i => (i.zero, i.size, i.bytes)) = some (some (.int .u8 0), 1, 1) := by kernel_rfl

set_option maxRecDepth 100000 in
set_option maxHeartbeats 1000000 in
theorem append_any (p : Nat) (S : Drv) (F : Nat → Prop) (s : ByteArray) (w : World) (hs : s.size ≤ maxLen) (hd : Dr w p S F) (hS : S.Small)
    (A : Option Addr) (c : Nat) (bs : List UInt8) (hr : Reads w w.heap.size 1 A bs.length (bs.map B8)) (hb : bs.length ≤ 140737488351232) :
    Calls Try.prog 42 #[.pointer (some ⟨p, 0, none⟩), .string s, .slice A bs.length c] w fun e w' =>
      e = .returned (.int .i64 (S.append s.data.toList bs).2) ∧ Dr w' p (S.append s.data.toList bs).1 (grow F w w') ∧ Touch F w w' := by
  obtain ⟨addr, hd⟩ := hd
  have HF := Lib.hid (find_any p S addr F s w hs hd)
  have HD := Lib.hid hd
  rcases find_cases S s.data.toList with ⟨hf, he⟩ | ⟨i, hf, hg⟩
  · obtain ⟨x, hx⟩ : ∃ x, x = (S.find s.data.toList).2 := ⟨_, rfl⟩
    rw [← hx] at hf he
    have HR : Hid (S.append s.data.toList bs = (S, x)) := by unfold Drv.append; rw [hf]; exact rfl
    rw [hf] at HF
    simp only [ptrO] at HF
    have hne : (x != 0) = true := by rcases he with rfl | rfl <;> rfl
    clear hd hx hf he hS hr
    rw [HR.out]
    go_enter Try.func42, Try.ntmps42
    go_wp2_with (go_at_call 70; refine HF.out.mono ?_; rintro e w' ⟨rfl, rfl⟩)
    go_ret
    exact ⟨rfl, ⟨_, HD.out.mono fun k h => .inl h⟩, Touch.refl _ _⟩
  · rw [hf] at HF
    simp only [ptrO] at HF
    obtain ⟨L, rfl, hD, hFo⟩ := hd
    have hil : i < S.bodies.length := by rw [← hD.la]; exact hD.now.dget_lt _ (by rw [len_size]; exact hs) hg
    by_cases hz : bs = []
    · have HR : Hid (S.append s.data.toList bs = (S, 0)) := by unfold Drv.append; rw [hf]; simp only; rw [if_pos hz]; exact rfl
      subst hz
      rw [HR.out]
      clear hf hg hS hr hD
      go_enter Try.func42, Try.ntmps42
      go_wp2_with (go_at_call 70; refine HF.out.mono ?_; rintro e w' ⟨rfl, rfl⟩)
      go_ret
      exact ⟨rfl, ⟨_, HD.out.mono fun k h => .inl h⟩, Touch.refl _ _⟩
    · obtain ⟨m, hm⟩ : ∃ m, m = bs.length := ⟨_, rfl⟩
      have hm0 : 0 < m := by rw [hm]; exact List.length_pos_iff.2 hz
      have hu := hS.used
      have hpos := hS.pos
      have hroom := hS.room
      have h0 : w.cell? ⟨p, 0, none⟩ = some (.int .i64 S.room) := hD.head.cell 0
      have h1 : w.cell? ⟨p, 1, none⟩ = some (.int .i64 S.used) := hD.head.cell 1
      have hne : ((m : Int) == 0) = false := by simp; omega
      rw [← hm] at hb hr ⊢
      have HM := Lib.hid hm
      by_cases hfull : (S.room : Int) < S.used + m
      · have HR : Hid (S.append s.data.toList bs = (S, 111)) := by unfold Drv.append; rw [hf]; simp only; rw [if_neg hz, if_pos (by rw [← hm]; exact hfull)]; exact rfl
        rw [HR.out]
        clear hf hg hS hr hD hz hm
        go_enter Try.func42, Try.ntmps42
        go_wp2_with (go_at_call 70; refine HF.out.mono ?_; rintro e w' ⟨rfl, rfl⟩)
        go_quiet (fail)
        go_wp2
        go_ret
        exact ⟨rfl, ⟨_, (HD.out.keep (Touch.drewN (F := fun _ => False) _ _) (fun _ _ h => h)).mono fun k h => .inl h⟩, Touch.drewN _ _⟩
      · obtain ⟨S2, hS2⟩ : ∃ S2 : Drv, S2 = { S.setBody i ⟨(S.body i).data ++ bs, (S.body i).safe⟩ with used := S.used + m } := ⟨_, rfl⟩
        have HS2 := Lib.hid hS2
        have HR : Hid (S.append s.data.toList bs = (S2, 0)) := by rw [hS2]; unfold Drv.append; rw [hf]; simp only; rw [if_neg hz, if_neg (by rw [← hm]; exact hfull), ← hm]; exact rfl
        rw [HR.out]
        have HDD := Lib.hid hD
        have HRD := Lib.hid hr
        have HFO := Lib.hid hFo
        obtain ⟨a, cc, hv, _⟩ := own_shape (hD.data i hil)
        have hlen := hS.len i
        have HV := Lib.hid hv
        clear hf hg hS hr hD hz hm hv hS2 hFo
        go_enter Try.func42, Try.ntmps42
        go_wp2_with (go_at_call 70; refine HF.out.mono ?_; rintro e w' ⟨rfl, rfl⟩)
        go_quiet (fail)
        refine exit_world fun X hX => ?_
        have HE0 : Hid (DrvAt X p S L) := by rw [hX]; exact HDD.out.keep fun _ _ => rfl
        have HT0 : Hid (Touch F w X) := by rw [hX]; exact Touch.drewN _ _
        have HR0 : Hid (Reads X X.heap.size 1 A m (bs.map B8)) := by rw [hX]; exact HRD.out.drewN _
        have x0 : X.cell? ⟨adrOf L.addr i, 0, none⟩ = some (.slice a (S.len i) cc) := by have := (HE0.out.body i hil).cell 0; rw [HV.out] at this; exact this
        have HO0 : Hid (X.ownsRow 0 5 1 (.slice a (S.len i) cc) (S.len i) ((S.body i).data.map B8)) := by have := HE0.out.data i hil; rw [HV.out] at this; exact Lib.hid this
        clear hX
        obtain ⟨i5, hi5, hz0, hz1, hz2⟩ := info_parts byteInfo
        have HB8 : Hid (∀ u ∈ bs.map B8, u.oneCell' = true) := by intro u hu; simp only [List.mem_map] at hu; obtain ⟨b, _, rfl⟩ := hu; rfl
        have hm63 : S.len i + m ≤ maxLen := by simp only [maxLen]; omega
        have HM63 := Lib.hid hm63; clear hm63
        go_wp2_with (at_builtin; go_loud (refine wpList_append_any _ rfl (.tmp 39) (.tmp 40) 22 rfl 0 5 i5 _ 1 1 Try.underlying22 hi5 hz0 hz1 hz2 rfl (by omega) _ (S.len i) _ rfl HO0.out X.heap.size A m c (bs.map B8) rfl HR0.out HB8.out HM63.out (by omega) (by omega) ?_); intro v1 w1 hown1 hg1 hat1; obtain ⟨a1, c1, rfl, _⟩ := own_shape hown1; go_must (have hbw : Blk w1 (adrOf L.addr i) 113 _ := (HE0.out.body i hil).grown hg1 (fun e => own_blk_ne HO0.out (HE0.out.body i hil) (by decide) e.symm); have hpw : Blk w1 p 90 _ := HE0.out.head.grown hg1 (fun e => own_blk_ne HO0.out HE0.out.head (by decide) e.symm); have y0 : w1.cell? ⟨adrOf L.addr i, 0, none⟩ = some (L.val i) := hbw.cell 0; have y0f : w1.frozen? ⟨adrOf L.addr i, 0, none⟩ = false := hbw.frozen 0; have y1 : w1.cell? ⟨p, 1, none⟩ = some (.int .i64 S.used) := hpw.cell 1; have y1f : w1.frozen? ⟨p, 1, none⟩ = false := hpw.frozen 1; have hnp : adrOf L.addr i ≠ p := hbw.ne_ hpw (by decide); have HOWN := Lib.hid hown1; have HG1 := Lib.hid hg1; have HAT := Lib.hid hat1; clear hown1 hg1 hat1 hbw hpw))
        go_ret
        have hbl : ((S.body i).data ++ bs).length = S.len i + m := by rw [List.length_append, ← HM.out]; rfl
        have hg1 := HG1.out
        have hat1 := HAT.out
        rw [← HV.out] at hg1 hat1
        have hFi : F (adrOf L.addr i) := HFO.out _ (.inr (.inr (.inr (.inl (getD_mem 0 (by rw [HE0.out.la]; exact hil))))))
        have hvm : L.val i ∈ L.vals := getD_mem _ (by rw [HE0.out.lv]; exact hil)
        have hFr : ∀ k, (L.val i).ownBlock = some k → F k := fun k hk => HFO.out _ (.inr (.inr (.inr (.inr (.inl ⟨_, hvm, hk⟩)))))
        have hD2 := HE0.out.setData hil (v := .slice a1 (S.len i + m) c1) (bs := (S.body i).data ++ bs) (by rw [hbl, List.map_append]; exact HOWN.out) hg1
          (by rcases hat1 with e | e
              · exact .inl e
              · exact .inr fun k hk => by rw [e] at hk; injection hk with hk; omega)
        have hD3 := hD2.setUsed (S.used + m)
        refine ⟨rfl, ⟨_, _, rfl, by rw [HS2.out]; exact hD3, ?_⟩, ?_⟩
        · rintro k (h | h | h | h | ⟨v, h, hv⟩ | h | h)
          · exact .inl (HFO.out _ (.inl h))
          · exact .inl (HFO.out _ (.inr (.inl h)))
          · exact .inl (HFO.out _ (.inr (.inr (.inl h))))
          · exact .inl (HFO.out _ (.inr (.inr (.inr (.inl h)))))
          · rcases List.mem_or_eq_of_mem_set h with h | h
            · exact .inl (HFO.out _ (.inr (.inr (.inr (.inr (.inl ⟨v, h, hv⟩))))))
            · subst h
              by_cases hk : k < w.heap.size
              · refine .inl ?_
                rcases hat1 with e | e
                · exact hFr _ (e.symm.trans hv)
                · exfalso; rw [e] at hv; injection hv with hv; have := HT0.out.size; omega
              · refine .inr ⟨by omega, ?_⟩
                have := (HOWN.out.lt k hv).2
                simpa [World.setCell] using this
          · exact .inl (HFO.out _ (.inr (.inr (.inr (.inr (.inr (.inl h)))))))
          · exact .inl (HFO.out _ (.inr (.inr (.inr (.inr (.inr (.inr h)))))))
        · have t1 : Touch F w w1 := HT0.out.trans (Touch.of_grown hg1 fun k hk => .inl (hFr k hk))
          have t2 := t1.trans (Touch.setCell _ ⟨adrOf L.addr i, 0, none⟩ (.slice a1 (S.len i + m) c1) (Or.inl hFi))
          exact t2.trans (Touch.setCell _ _ _ (Or.inl (HFO.out _ (Or.inl rfl))))
end Go.Proofs.Ytdmcjomcbhdcbaa
