/- The moves of a region that draws its order, in short: alone.; The moves of a region that draws its order, in short.; cairnref14.SamePairs of two walks that say the same. (Printed by gen_Ee.py.) -/
import Derived.Test.YtcbebefdbdppdaaGreatM1
import Derived.OrdersHeld
import Derived.Test.YtcbebefdbdppdaaGreatM32
import Derived.Test.YtcbebefdbdppdaaGreatM37
namespace Go.Proofs.YtcbebefdbdppdaaGreat
open Go.RowKit
section
variable {P : Program} {ops : Array Oper} {Q : Exit → Act → World → Prop} {md : Region.Mode} {S : World → Prop} {x1 : Option Nat} {x2 : Op} {x3 : TypeId} {x4 : String} {x5 : Array Edge} {x6 : Option (Nat × Bool)} {v : Value} {fuel : Nat} {listed : Array Bool} {a : Act} {w : World}
theorem hT (i : Nat) (hi : ops[i]? = some ⟨x1, x2, x3, x4, x5, x6⟩) (hS : S w) (hv : ∀ U, S U → (execOp a.eval ⟨x1, x2, x3, x4, x5, x6⟩).run P U = .ok (.value v) U) (h : wpAnyH P md ops Q S fuel (listed.setIfInBounds i true) (a.put x1 v) w)
    (hs : Region.noSelect ops = true := by kernel_rfl) (hf : Region.free md ops listed i = true := by kernel_rfl) (hr : (Region.ready md ops listed).contains i = true := by kernel_rfl)
    (hw : Region.wanted ⟨x1, x2, x3, x4, x5, x6⟩ (yielded ops a.tmps) = true := by kernel_rfl) (hQ : ∀ c a w, Q (.panic c) (a.put x1 v) w → Q (.panic c) a w := by exact fun _ _ _ h => h) : wpAnyH P md ops Q S (fuel + 1) listed a w :=
  wpAnyH_take hi hs hf hr hQ (Or.inl ⟨hw, hv⟩) hS h
theorem hN (i : Nat) (hi : ops[i]? = some ⟨x1, x2, x3, x4, x5, x6⟩) (hS : S w) (h : wpAnyH P md ops Q S fuel (listed.setIfInBounds i true) (a.put x1 undef) w)
    (hs : Region.noSelect ops = true := by kernel_rfl) (hf : Region.free md ops listed i = true := by kernel_rfl) (hr : (Region.ready md ops listed).contains i = true := by kernel_rfl)
    (hw : Region.wanted ⟨x1, x2, x3, x4, x5, x6⟩ (yielded ops a.tmps) = false := by kernel_rfl) (hQ : ∀ c a w, Q (.panic c) (a.put x1 undef) w → Q (.panic c) a w := by exact fun _ _ _ h => h) : wpAnyH P md ops Q S (fuel + 1) listed a w :=
  wpAnyH_take hi hs hf hr hQ (Or.inr ⟨hw, rfl⟩) hS h
end
end Go.Proofs.YtcbebefdbdppdaaGreat
namespace Go.Proofs.YtcbebefdbdppdaaGreat
open Go.RowKit
section
variable {F : Fence} {n : Nat} {P : Program} {ops : Array Oper} {Q : Exit → Act → World → Prop} {md : Region.Mode} {S : World → Prop} {x1 : Option Nat} {x2 : Op} {x3 : TypeId} {x4 : String} {x5 : Array Edge} {x6 : Option (Nat × Bool)} {v : Value} {fuel : Nat} {listed : Array Bool} {a : Act} {w : World}
theorem hrT (i : Nat) (hi : ops[i]? = some ⟨x1, x2, x3, x4, x5, x6⟩) (hS : S w) (hv : ∀ U, S U → (execOp a.eval ⟨x1, x2, x3, x4, x5, x6⟩).run P U = .ok (.value v) U) (h : wpAnyHR F n P md ops Q S fuel (listed.setIfInBounds i true) (a.put x1 v) w)
    (hF : ∀ f, F.fn f := by exact fun _ => trivial) (hnd : noDefer ops = true := by kernel_rfl) (hs : Region.noSelect ops = true := by kernel_rfl) (hf : Region.free md ops listed i = true := by kernel_rfl) (hr : (Region.ready md ops listed).contains i = true := by kernel_rfl)
    (hw : Region.wanted ⟨x1, x2, x3, x4, x5, x6⟩ (yielded ops a.tmps) = true := by kernel_rfl) (hQ : ∀ c a w, Q (.panic c) (a.put x1 v) w → Q (.panic c) a w := by exact fun _ _ _ h => h) : wpAnyHR F n P md ops Q S (fuel + 1) listed a w :=
  wpAnyHR_take hF hnd hi hs hf hr hQ (Or.inl ⟨hw, hv⟩) hS h
theorem hrN (i : Nat) (hi : ops[i]? = some ⟨x1, x2, x3, x4, x5, x6⟩) (hS : S w) (h : wpAnyHR F n P md ops Q S fuel (listed.setIfInBounds i true) (a.put x1 undef) w)
    (hF : ∀ f, F.fn f := by exact fun _ => trivial) (hnd : noDefer ops = true := by kernel_rfl) (hs : Region.noSelect ops = true := by kernel_rfl) (hf : Region.free md ops listed i = true := by kernel_rfl) (hr : (Region.ready md ops listed).contains i = true := by kernel_rfl)
    (hw : Region.wanted ⟨x1, x2, x3, x4, x5, x6⟩ (yielded ops a.tmps) = false := by kernel_rfl) (hQ : ∀ c a w, Q (.panic c) (a.put x1 undef) w → Q (.panic c) a w := by exact fun _ _ _ h => h) : wpAnyHR F n P md ops Q S (fuel + 1) listed a w :=
  wpAnyHR_take hF hnd hi hs hf hr hQ (Or.inr ⟨hw, rfl⟩) hS h
end
end Go.Proofs.YtcbebefdbdppdaaGreat
namespace Go.Proofs.YtcbebefdbdppdaaGreat
open Go.RowKit Go.Maps
theorem PairRow.below {w w' : World} {g : Nat} {us : List (List UInt8 × Array Value)} (h : PairRow w g us) (hb : Below w.heap.size w w') : PairRow w' g us :=
  h.keep (fun he => hb.block g (h.1 he)) hb.size
theorem w64B {k n : Nat} (h : k < n) (hn : n ≤ 1099511627776) : wrap64 ((k : Int) + 1) = (k : Int) + 1 := IntWalk.wrap64_in _ (by omega)
set_option maxRecDepth 100000 in
set_option maxHeartbeats 8000000 in
theorem samepairs_yes (g1 g2 : Nat) (A1 A2 : Option Addr) (n c1 c2 : Nat) (us1 us2 : List (List UInt8 × Array Value)) (hA1 : 0 < n → A1 = some ⟨g1, 0, none⟩) (hA2 : 0 < n → A2 = some ⟨g2, 0, none⟩) (h1 : n ≤ us1.length) (h2 : n ≤ us2.length) (hn : n ≤ 1099511627776) (w : World)
    (r1 : PairRow w g1 us1) (r2 : PairRow w g2 us2) (hs : ∀ j p1 p2, j < n → us1[j]? = some p1 → us2[j]? = some p2 → p1.1 = p2.1 ∧ SameV w w.heap.size p1.2 p2.2) :
    Calls Tryz.prog 27 #[.slice A1 n c1, .slice A2 n c2] w fun e w' => e = .returned (.bool true) ∧ Below w.heap.size w w' := by
  have HA := Lib.hid (And.intro hA1 (And.intro hA2 (And.intro h1 (And.intro h2 hn))))
  have HR1 := Lib.hid r1
  have HR2 := Lib.hid r2
  have HS := Lib.hid hs
  clear hA1 hA2 h1 h2 hn r1 r2 hs
  go_enter Tryz.func27, Tryz.ntmps27
  go_wp2_with fail
  go_loopw [5] (fun s5 wr => ∃ k : Nat, k ≤ n ∧ s5 = .int .i64 (k : Int) ∧ Below w.heap.size w wr) (fun s _ => n - (intOf s).toNat)
  case atStart => exact ⟨0, Nat.zero_le _, rfl, Below.refl _ _⟩
  case round =>
    obtain ⟨k, hk, rfl, hb⟩ := hrel
    have HB := Lib.hid hb
    have hk0 : (0 : Int) ≤ (k : Int) := Int.natCast_nonneg _
    clear hb
    by_cases hlt : k < n
    · have hlt' : (k : Int) < (n : Int) := ltI hlt
      have HKW := Lib.hid (w64B hlt HA.out.2.2.2.2)
      obtain ⟨⟨key, C1⟩, hp1⟩ : ∃ p, us1[k]? = some p := ⟨us1[k]'(Nat.lt_of_lt_of_le hlt HA.out.2.2.1), List.getElem?_eq_getElem (Nat.lt_of_lt_of_le hlt HA.out.2.2.1)⟩
      obtain ⟨⟨key2, C2⟩, hp2⟩ : ∃ p, us2[k]? = some p := ⟨us2[k]'(Nat.lt_of_lt_of_le hlt HA.out.2.2.2.1), List.getElem?_eq_getElem (Nat.lt_of_lt_of_le hlt HA.out.2.2.2.1)⟩
      obtain ⟨e, hsv⟩ := HS.out k _ _ hlt hp1 hp2
      have e : key = key2 := e
      subst e
      have hsv : SameV w w.heap.size C1 C2 := hsv
      have hz := hsv.size
      obtain ⟨t, ht⟩ : ∃ t, strV key = .string t := ⟨_, rfl⟩
      obtain rfl := HA.out.1 (by omega)
      obtain rfl := HA.out.2.1 (by omega)
      obtain ⟨SS, hSS⟩ : ∃ SS : World → Prop, SS = fun U => U.cell? ⟨g1, k * 20, none⟩ = some (.string t) ∧ U.cell? ⟨g2, k * 20, none⟩ = some (.string t) ∧ (loadVar 57 ⟨g1, k * 20 + 1, none⟩).run Tryz.prog U = .ok (.agg C1) U ∧ (loadVar 57 ⟨g2, k * 20 + 1, none⟩).run Tryz.prog U = .ok (.agg C2) U := ⟨_, rfl⟩
      have HSA : Hid (∀ U, Below w.heap.size w U → SS U) := Lib.hid fun U hU => by
        rw [hSS]
        have q1 := HR1.out.below hU
        have q2 := HR2.out.below hU
        exact ⟨(q1.key hp1).trans (congrArg some ht), (q2.key hp2).trans (congrArg some ht), q1.seen hp1 hz.1, q2.seen hp2 hz.2⟩
      have HSQ := Lib.hid hSS
      have HSS := Lib.hid (HSA.out wr.drew (below_drew1 HB.out))
      have HSV := Lib.hid (fun U (hU : Below w.heap.size w U) => sameV_yes ((hsv.below hU).upto hU.size))
      clear hp1 hp2 hsv hz ht hk hSS
      go_wp2_with fail
      refine wp_region_held_drew (S := SS) (by kernel_rfl) HSS.out (fun hHeld => ?_)
      refine hT (v := ?_) 0 rfl HSS.out ?_ ?_
      rotate_left
      · (intro U hU; clear hU; go_simp; try with_reducible rfl)
      try simp only [Act.put, List.setIfInBounds_toArray, List.set_cons_zero, List.set_cons_succ]
      refine hT (v := ?_) 1 rfl HSS.out ?_ ?_
      rotate_left
      · (intro U hU; clear hU; go_simp; try with_reducible rfl)
      try simp only [Act.put, List.setIfInBounds_toArray, List.set_cons_zero, List.set_cons_succ]
      refine hT (v := ?_) 2 rfl HSS.out ?_ ?_
      rotate_left
      · (intro U hU; clear hU; go_simp; try with_reducible rfl)
      try simp only [Act.put, List.setIfInBounds_toArray, List.set_cons_zero, List.set_cons_succ]
      refine hT (v := ?_) 3 rfl HSS.out ?_ ?_
      rotate_left
      · (intro U hU; clear hU; go_simp; try with_reducible rfl)
      try simp only [Act.put, List.setIfInBounds_toArray, List.set_cons_zero, List.set_cons_succ]
      refine hT (v := ?_) 4 rfl HSS.out ?_ ?_
      rotate_left
      · (intro U hU; rw [HSQ.out] at hU; obtain ⟨hU0, hU1, _, _⟩ := hU; go_simp; try with_reducible rfl)
      try simp only [Act.put, List.setIfInBounds_toArray, List.set_cons_zero, List.set_cons_succ]
      refine hT (v := ?_) 5 rfl HSS.out ?_ ?_
      rotate_left
      · (intro U hU; clear hU; go_simp; try with_reducible rfl)
      try simp only [Act.put, List.setIfInBounds_toArray, List.set_cons_zero, List.set_cons_succ]
      refine hT (v := ?_) 6 rfl HSS.out ?_ ?_
      rotate_left
      · (intro U hU; clear hU; go_simp; try with_reducible rfl)
      try simp only [Act.put, List.setIfInBounds_toArray, List.set_cons_zero, List.set_cons_succ]
      refine hT (v := ?_) 7 rfl HSS.out ?_ ?_
      rotate_left
      · (intro U hU; clear hU; go_simp; try with_reducible rfl)
      try simp only [Act.put, List.setIfInBounds_toArray, List.set_cons_zero, List.set_cons_succ]
      refine hT (v := ?_) 8 rfl HSS.out ?_ ?_
      rotate_left
      · (intro U hU; clear hU; go_simp; try with_reducible rfl)
      try simp only [Act.put, List.setIfInBounds_toArray, List.set_cons_zero, List.set_cons_succ]
      refine hT (v := ?_) 9 rfl HSS.out ?_ ?_
      rotate_left
      · (intro U hU; rw [HSQ.out] at hU; obtain ⟨hU0, hU1, _, _⟩ := hU; go_simp; try with_reducible rfl)
      try simp only [Act.put, List.setIfInBounds_toArray, List.set_cons_zero, List.set_cons_succ]
      refine hT (v := ?_) 10 rfl HSS.out ?_ ?_
      rotate_left
      · (intro U hU; clear hU; go_simp; try with_reducible rfl)
      try simp only [Act.put, List.setIfInBounds_toArray, List.set_cons_zero, List.set_cons_succ]
      refine hT (v := ?_) 11 rfl HSS.out ?_ ?_
      rotate_left
      · (intro U hU; clear hU; go_simp; try with_reducible rfl)
      try simp only [Act.put, List.setIfInBounds_toArray, List.set_cons_zero, List.set_cons_succ]
      refine hT (v := ?_) 12 rfl HSS.out ?_ ?_
      rotate_left
      · (intro U hU; clear hU; go_simp; try with_reducible rfl)
      try simp only [Act.put, List.setIfInBounds_toArray, List.set_cons_zero, List.set_cons_succ]
      refine hT (v := ?_) 13 rfl HSS.out ?_ ?_
      rotate_left
      · (intro U hU; clear hU; go_simp; try with_reducible rfl)
      try simp only [Act.put, List.setIfInBounds_toArray, List.set_cons_zero, List.set_cons_succ]
      refine hT (v := ?_) 14 rfl HSS.out ?_ ?_
      rotate_left
      · (intro U hU; clear hU; go_simp; try with_reducible rfl)
      try simp only [Act.put, List.setIfInBounds_toArray, List.set_cons_zero, List.set_cons_succ]
      refine hT (v := ?_) 15 rfl HSS.out ?_ ?_
      rotate_left
      · (intro U hU; clear hU; go_simp; try with_reducible rfl)
      try simp only [Act.put, List.setIfInBounds_toArray, List.set_cons_zero, List.set_cons_succ]
      refine hT (v := (.agg C1)) 16 rfl HSS.out (fun U hU => load_yields 57 (.tmp 32) rfl ⟨g1, k * 20 + 1, none⟩ rfl (.agg C1) (by rw [HSQ.out] at hU; exact hU.2.2.1)) ?_
      try simp only [Act.put, List.setIfInBounds_toArray, List.set_cons_zero, List.set_cons_succ]
      refine hT (v := ?_) 17 rfl HSS.out ?_ ?_
      rotate_left
      · (intro U hU; clear hU; go_simp; try with_reducible rfl)
      try simp only [Act.put, List.setIfInBounds_toArray, List.set_cons_zero, List.set_cons_succ]
      refine hT (v := ?_) 18 rfl HSS.out ?_ ?_
      rotate_left
      · (intro U hU; clear hU; go_simp; try with_reducible rfl)
      try simp only [Act.put, List.setIfInBounds_toArray, List.set_cons_zero, List.set_cons_succ]
      refine hT (v := ?_) 19 rfl HSS.out ?_ ?_
      rotate_left
      · (intro U hU; clear hU; go_simp; try with_reducible rfl)
      try simp only [Act.put, List.setIfInBounds_toArray, List.set_cons_zero, List.set_cons_succ]
      refine hT (v := ?_) 20 rfl HSS.out ?_ ?_
      rotate_left
      · (intro U hU; clear hU; go_simp; try with_reducible rfl)
      try simp only [Act.put, List.setIfInBounds_toArray, List.set_cons_zero, List.set_cons_succ]
      refine hT (v := (.agg C2)) 21 rfl HSS.out (fun U hU => load_yields 57 (.tmp 37) rfl ⟨g2, k * 20 + 1, none⟩ rfl (.agg C2) (by rw [HSQ.out] at hU; exact hU.2.2.2)) ?_
      try simp only [Act.put, List.setIfInBounds_toArray, List.set_cons_zero, List.set_cons_succ]
      refine wpAnyH_ready (rs := [22]) (by kernel_rfl) (by simp) (AllReadyH.cons (o := _) rfl (fun K hK => ?_) AllReadyH.nil)
      go_simp
      refine (HSV.out _ (below_drew1 HB.out)).mono ?_
      rintro e w2 ⟨rfl, hb2⟩
      have hb2 : Below w.heap.size w w2 := (below_drew1 HB.out).trans (hb2.mono HB.out.size)
      have HB2 := Lib.hid hb2
      have HSS := Lib.hid (HSA.out w2 hb2)
      clear hb2
      refine hK.out _ _ HSS.out (fun hHeld => ?_)
      clear hK K; try simp only [Act.put, List.setIfInBounds_toArray, List.set_cons_zero, List.set_cons_succ]
      refine hT (v := ?_) 23 rfl HSS.out ?_ ?_
      rotate_left
      · (intro U hU; clear hU; go_simp; try with_reducible rfl)
      try simp only [Act.put, List.setIfInBounds_toArray, List.set_cons_zero, List.set_cons_succ]
      refine hT (v := ?_) 24 rfl HSS.out ?_ ?_
      rotate_left
      · (intro U hU; clear hU; go_simp; try with_reducible rfl)
      try simp only [Act.put, List.setIfInBounds_toArray, List.set_cons_zero, List.set_cons_succ]
      refine wpAnyH_done (by kernel_rfl) ?_ _
      go_wp2_with fail
      go_roundw
      case rel => exact ⟨k + 1, hlt, by rw [HKW.out]; rfl, HB2.out⟩
      case measure => rw [HKW.out]; simp [intOf]; omega
    · obtain rfl : k = n := Nat.le_antisymm hk (Nat.le_of_not_lt hlt)
      go_wp2_with fail
      go_ret
      exact ⟨rfl, HB.out⟩
end Go.Proofs.YtcbebefdbdppdaaGreat
