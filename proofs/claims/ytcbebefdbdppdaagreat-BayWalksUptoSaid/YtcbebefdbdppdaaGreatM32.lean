/- bay.each: the iterator over the keys of a drive.; A region that draws its order, inside a round: Derived/OrdersHeld.lean's moves turned to a fence (a round's, too): what yields in every world that meets S may be taken first.; bay.All: the iterator over the keys of a drive, each with what a look shows of it. -/
import Derived.Test.YtcbebefdbdppdaaGreatM31
import Derived.TacticsIn
import Derived.Sort.CutIn
import Derived.OrdersHeld
import Derived.OrdersIn
import Derived.OwnWalkIn
namespace Go.Proofs.YtcbebefdbdppdaaGreat
open Go.RowKit Go.Maps
attribute [local go_sem] Oper.semAt_some
theorem room_none {F : Fence} (hd : F.depth = none) (k : Nat) : F.room k := fun d h => by rw [hd] at h; cases h
theorem RoundIn.any {F : Fence} (hd : F.depth = none) {m m' : Nat} {P : Program} {l : Nat} {f : FuncId} {tmps : Array Value} {assign body : Code} {w : World} {R : Ending → World → Prop}
    (h : RoundIn F m P l f tmps assign body w R) : RoundIn F m' P l f tmps assign body w R := ⟨h.1, fun c cs _ => h.2 c cs (room_none hd _)⟩
theorem YieldAt.any {F : Fence} (hd : F.depth = none) {m : Nat} (m' : Nat) {P : Program} {l : Nat} {args : Array Value} {W : World} {R : Ending → World → Prop} (h : YieldAt F m P l args W R) : YieldAt F m' P l args W R := by
  obtain ⟨fn, tmps, assign, body, hy, hR⟩ := h
  exact ⟨fn, tmps, assign, body, hy, RoundIn.any hd hR⟩
theorem each_any (d : Value) (w : World) (h1 : ∃ t v, d = .iface t v) : Calls Tryz.prog 78 #[d] w fun e w' => e = .returned (.func (.func 140) #[] #[.pointer (some ⟨w.heap.size, 0, none⟩)]) ∧ w' = w.alloc (.cells #[d] 72) := by
  obtain ⟨t, v, rfl⟩ := h1
  go_enter Tryz.func78, Tryz.ntmps78
  go_wp2
  go_ret
  exact ⟨rfl, rfl⟩
set_option maxRecDepth 100000 in
set_option maxHeartbeats 4000000 in
theorem each1_in (n l B0 : Nat) (q p : Nat) (X : Wnd) (S : Drv) (F : Nat → Prop) (W : World) (hn : size S.now ≤ 2199023255552) (hnm : ∀ nm ∈ dnames S.now, nm.length ≤ 1024) (hdl : (dnames S.now).length ≤ 2199023255552)
    (hd : WD W q p X S F) (hF : ∀ k, F k → k < W.heap.size) (hX : X.Ok) (hS : S.Small) (Y : Wnd) (ls : List (List UInt8)) (x : Int) (hy : wread X (dnames S.now, (0 : Int)) = (Y, ls, x))
    (hbox : W.cell? ⟨B0, 0, none⟩ = some (.iface 36 (.pointer (some ⟨q, 0, none⟩))))
    (G : Nat → Prop) (hG : ∀ k, G k → k < W.heap.size) (J : Nat → Nat → World → Prop) (Jx : World → Prop)
    (h0 : ∀ W1, WD W1 q p Y S F → Touch F W W1 → J W1.heap.size 0 W1)
    (hY : ∀ m i key W1, (keysL ls x)[i]? = some key → W.heap.size ≤ m → J m i W1 → YieldAt Fence.wide (n - 1) Tryz.prog l #[strV key] W1 fun e W2 =>
      (e = .returned (.bool true) ∧ J m (i + 1) W2 ∧ Touch (fun k => G k ∨ m ≤ k) W1 W2) ∨ (e = .returned (.bool false) ∧ Jx W2)) :
    CallsIn Fence.wide n Tryz.prog 140 #[.func (.yield l) #[] #[], .pointer (some ⟨B0, 0, none⟩)] W fun e W' => (∃ v, e = .returned v) ∧ ((∃ m, J m (keysL ls x).length W') ∨ Jx W') := by
  have HK := Lib.hid (bkeys_any q p X S F W hn hnm hdl hd hF hX hS Y ls x hy)
  have HG := Lib.hid hG
  have HY := Lib.hid hY
  have H0 := Lib.hid h0
  have hdd : ∀ k : Nat, (Fence.wide.depth.isSome = true → 1 ≤ k) := fun k h => by cases h
  have hf1 : Fence.wide.fn 23 := trivial
  generalize keysL ls x = ks at HK HY ⊢
  clear hn hnm hdl hd hF hX hS hy hG h0 hY
  refine callsIn_of_wp Tryz.func140 rfl trivial ?_ rfl
  simp only [Tryz.ntmps140, List.size_toArray, List.length_cons, List.length_nil, Nat.reduceAdd, Nat.reduceSub, Array.replicate_succ, Array.replicate_zero, List.push_toArray, List.append_toArray, List.nil_append, List.cons_append]
  gi_wp2_with ((try refine ⟨hdd _, ?_⟩); gi_at_call 23; refine (callsIn_wide.2 HK.out).mono ?_; clear HK; rintro e W1 ⟨v, rfl, ho1, hd1, ht1⟩; obtain ⟨A, c, rfl, _⟩ := own_shape ho1; have HO1 := Lib.hid ho1; have HD1 := Lib.hid hd1; have HT1 := Lib.hid ht1; clear ho1 hd1 ht1)
  have HM : Hid (W.heap.size ≤ W1.heap.size) := Lib.hid HT1.out.size
  have HR := Lib.hid (Reads.of_own HO1.out)
  obtain ⟨m, hm⟩ : ∃ m, m = W1.heap.size := ⟨_, rfl⟩
  have HKL : Hid (ks.length ≤ 9223372036854775807) := Lib.hid (by
    have h1 := HO1.out.2
    rcases h1 with ⟨h2, h3⟩ | ⟨g, cap, cur, h2, _, _, h3, h4, _⟩
    · injection h2 with _ h2; omega
    · unfold maxLen at h4; omega)
  have HS0 : Hid (J m 0 W1) := Lib.hid (by rw [hm]; exact H0.out W1 HD1.out HT1.out)
  have HMM : Hid (W.heap.size ≤ m ∧ W1.heap.size = m) := Lib.hid ⟨by rw [hm]; exact HM.out, hm.symm⟩
  clear hm
  gi_loopw [6, 14] (fun _ s14 wr => ∃ i : Nat, i ≤ ks.length ∧ s14 = .int .i64 (i : Int) ∧ J m i wr ∧ Touch (fun k => G k ∨ m ≤ k) W1 wr) (fun _ s _ => ks.length - (intOf s).toNat)
  case atStart => exact ⟨0, Nat.zero_le _, rfl, HS0.out, Touch.refl _ _⟩
  case round =>
    obtain ⟨i, hi, rfl, hj, ht⟩ := hrel
    have HJ := Lib.hid hj
    have HT := Lib.hid ht
    clear hj ht
    by_cases hlt : i < ks.length
    · have hlt' : (i : Int) < (ks.length : Int) := by omega
      have hi0 : (0 : Int) ≤ (i : Int) := Int.natCast_nonneg _
      have HW : Hid (wrap64 ((i : Int) + 1) = (i : Int) + 1) := Lib.hid (IntWalk.wrap64_in _ (by have := HKL.out; omega))
      obtain ⟨ad, u, hA, hadB, hu, hcell⟩ := (HR.out.touch HT.out (Nat.le_refl _) (fun ad hA h => by
        have h1 := own_place HO1.out ad hA
        rcases h with h | h
        · have := HG.out _ h; omega
        · have := HMM.out.2; omega)).at_ hlt
      subst hA
      rw [List.getElem?_map] at hu
      obtain ⟨key, hkey, rfl⟩ : ∃ key, ks[i]? = some key ∧ u = strV key := by
        cases e : ks[i]? with
        | none => rw [e] at hu; cases hu
        | some key => rw [e] at hu; injection hu with hu; exact ⟨key, rfl, hu.symm⟩
      have HYY := Lib.hid (HY.out m i key wr hkey HMM.out.1 HJ.out)
      unfold strV at HYY hcell
      obtain ⟨t, ht⟩ : ∃ t : ByteArray, t = ⟨key.toArray⟩ := ⟨_, rfl⟩
      rw [← ht] at HYY hcell
      have HYZ := Lib.hid HYY.out
      obtain ⟨fn, tmps, assign, body, hy, hR⟩ := HYZ.out
      have HRR := Lib.hid hR
      clear hR HYY HYZ hkey hu hadB ht HY H0 hi
      gi_wp2_with ((try refine ⟨hdd _, ?_⟩); refine HRR.out.mono ?_; clear HRR; rintro e W2 (⟨rfl, hJ2, ht2⟩ | ⟨rfl, hx2⟩))
      · refine ⟨⟨i + 1, hlt, by rw [HW.out]; rfl, hJ2, HT.out.trans (ht2.mono fun k hk h => .inl h)⟩, ?_⟩
        rw [HW.out]; simp [intOf]; omega
      · refine bodyPost_ret (results_none rfl _ _ _) rfl ?_
        exact ⟨⟨_, rfl⟩, .inr hx2⟩
    · obtain rfl : i = ks.length := by omega
      gi_wp2_with fail
      go_end0
      exact ⟨⟨_, rfl⟩, .inl ⟨m, HJ.out⟩⟩
end Go.Proofs.YtcbebefdbdppdaaGreat
namespace Go.Proofs.YtcbebefdbdppdaaGreat
open Go.RowKit
def noDefer (ops : Array Oper) : Bool := ops.all fun o => match o.op with | .defer _ => false | _ => true
theorem noDefer_spec {ops : Array Oper} (h : noDefer ops = true) (j : Nat) (o : Oper) (hj : ops[j]? = some o) : ∀ c, o.op ≠ .defer c := by
  intro c hc
  obtain ⟨hlt, rfl⟩ := Array.getElem?_eq_some_iff.1 hj
  have := Array.all_eq_true.1 h j hlt
  rw [hc] at this; cases this
section
variable {F : Fence} {n : Nat} {P : Program} {ops : Array Oper} {Q : Exit → Act → World → Prop} {md : Region.Mode} {S : World → Prop}
theorem yieldsIf_wpOpIn (hF : ∀ f, F.fn f) (hnd : noDefer ops = true) {i : Nat} {o : Oper} {v : Value} {a : Act} (hi : ops[i]? = some o) (hy : YieldsIf P ops S o v a)
    {K : Act → World → Prop} {w : World} (hS : S w) (h : K (a.put o.dst v) w) : wpOpIn F n P ops Q i K a w := by
  unfold wpOpIn
  simp only [hi]
  rcases hy with ⟨hw, hv⟩ | ⟨hw, rfl⟩
  · simp only [hw, if_true, Oper.wpIn, Oper.semAt_plain F _ _ (noDefer_spec hnd _ _ hi), hv w hS, Oper.uponIn]; exact ⟨fun f _ => hF f, h⟩
  · simp only [hw, Bool.false_eq_true, if_false]; exact ⟨fun f _ => hF f, h⟩
theorem wpOpIn_putIf (hF : ∀ f, F.fn f) (hnd : noDefer ops = true) {j : Nat} {oi oj : Oper} {v : Value} (hj : ops[j]? = some oj) (hap : oi.apart ops oj = true)
    (hsi : ∀ cs b, oi.op ≠ .select cs b) (hsj : ∀ cs b, oj.op ≠ .select cs b)
    (hQ : ∀ c a w, Q (.panic c) (a.put oi.dst v) w → Q (.panic c) a w) {K : Act → World → Prop} {a : Act} {w : World}
    (hy : YieldsIf P ops S oi v a) (h : wpOpIn F n P ops Q j K (a.put oi.dst v) w) :
    wpOpIn F n P ops Q j (fun a' w' => YieldsIf P ops S oi v a' ∧ K (a'.put oi.dst v) w') a w := by
  obtain ⟨h1, h2, h3⟩ := Oper.apart_spec hap
  have keep : ∀ (a : Act), YieldsIf P ops S oi v a → ∀ u, YieldsIf P ops S oi v (a.put oj.dst u) := fun a hy u =>
    hy.of_same (execOp_put oi hsi a oj.dst u h3) (wanted_put oi a oj.dst u h3)
  have hd := noDefer_spec hnd _ _ hj
  unfold wpOpIn at *
  simp only [hj] at *
  rw [wanted_put oj a oi.dst v h1] at h
  split
  · rename_i hw
    simp only [hw, if_true] at h
    unfold Oper.wpIn at *
    refine ⟨fun f _ => hF f, ?_⟩
    have h := h.2
    rw [Oper.semAt_plain F _ _ hd, execOp_put oj hsj a oi.dst v h1] at h
    rw [Oper.semAt_plain F _ _ hd]
    generalize (execOp a.eval oj).run P w = r at *
    cases r with
    | ok x w' =>
      cases x <;> simp only [Oper.uponIn] at h ⊢
      case value u => exact ⟨keep a hy u, by rw [← Act.put_comm a v u h2]; exact h⟩
      case skip => exact ⟨keep a hy _, by rw [← Act.put_comm a v undef h2]; exact h⟩
      case defer d =>
        have keepD : ∀ d, YieldsIf P ops S oi v { a with defers := d :: a.defers } := fun d => hy.of_same rfl rfl
        refine ⟨keep _ (keepD d) _, ?_⟩
        rw [← Act.put_comm _ v undef h2, ← Act.put_defers]
        exact h
      case enter f args =>
        refine ⟨h.1, CallsIn.mono h.2 fun e w'' he => ?_⟩
        cases e with
        | returned u => exact ⟨keep a hy u, by rw [← Act.put_comm a v u h2]; exact he⟩
        | panicked c => exact hQ _ _ _ he
        | outgrown => exact he
      case row row args => exact ⟨h.1, RowsIn.mono h.2 fun u w'' he => ⟨keep a hy u, by rw [← Act.put_comm a v u h2]; exact he⟩⟩
      case round l f tmps assign body =>
        refine ⟨h.1, RoundIn.mono h.2 fun e w'' he => ?_⟩
        cases e with
        | returned u => exact ⟨keep a hy u, by rw [← Act.put_comm a v u h2]; exact he⟩
        | panicked c => exact hQ _ _ _ he
        | outgrown => exact he
    | halt x w' =>
      cases x <;> simp only [Oper.uponIn] at h ⊢
      case panic u => exact hQ _ _ _ h
  · rename_i hw
    simp only [hw] at h
    exact ⟨fun f _ => hF f, keep a hy _, by rw [← Act.put_comm a v undef h2]; exact h.2⟩
def wpAnyHR (F : Fence) (n : Nat) (P : Program) (md : Region.Mode) (ops : Array Oper) (Q : Exit → Act → World → Prop) (S : World → Prop) : Nat → Array Bool → Act → World → Prop
  | 0, listed, a, w => Region.ready md ops listed = [] ∧ Q .normal a w
  | fuel + 1, listed, a, w =>
    (Region.ready md ops listed = [] → Q .normal a w) ∧
    ∀ i ∈ Region.ready md ops listed, wpOpIn F n P ops Q i (fun a' w' => S w' ∧ wpAnyHR F n P md ops Q S fuel (listed.setIfInBounds i true) a' w') a w
theorem wpAnyIn_of_held : ∀ (fuel : Nat) (listed : Array Bool) (a : Act) (w : World), wpAnyHR F n P md ops Q S fuel listed a w → wpAnyIn F n P md ops Q fuel listed a w
  | 0, _, _, _, h => h
  | fuel + 1, _, _, _, h => ⟨h.1, fun i hi => wpOpIn_mono (fun a' w' h' => wpAnyIn_of_held fuel _ a' w' h'.2) (h.2 i hi)⟩
theorem wpAnyHR_first (hF : ∀ f, F.fn f) (hnd : noDefer ops = true) {i : Nat} {oi : Oper} {v : Value} (hi : ops[i]? = some oi) (hsel : ∀ (j : Nat) (o : Oper) cs b, ops[j]? = some o → o.op ≠ .select cs b)
    (hQ : ∀ c a w, Q (.panic c) (a.put oi.dst v) w → Q (.panic c) a w) :
    ∀ (fuel : Nat) (listed : Array Bool) (a : Act) (w : World),
      (∀ j oj, ops[j]? = some oj → j ≠ i → listed.getD j true = false → (∀ e ∈ oj.after, Region.binds md e = true → e.on ≠ i) → oi.apart ops oj = true) →
      i ∈ Region.ready md ops listed → YieldsIf P ops S oi v a → S w →
      wpAnyHR F n P md ops Q S fuel (listed.setIfInBounds i true) (a.put oi.dst v) w → wpAnyHR F n P md ops Q S (fuel + 1) listed a w := by
  intro fuel
  induction fuel with
  | zero =>
    intro listed a w _ hr hy hS H
    refine ⟨fun h => (by rw [h] at hr; cases hr), fun j hj => ?_⟩
    by_cases hji : j = i
    · subst hji; exact yieldsIf_wpOpIn hF hnd hi hy hS ⟨hS, H⟩
    · have := ready_mono hj hji
      rw [H.1] at this
      cases this
  | succ fuel ih =>
    intro listed a w hfree hr hy hS H
    refine ⟨fun h => (by rw [h] at hr; cases hr), fun j hj => ?_⟩
    by_cases hji : j = i
    · subst hji; exact yieldsIf_wpOpIn hF hnd hi hy hS ⟨hS, H⟩
    · have h1 := H.2 j (ready_mono hj hji)
      obtain ⟨hjun, oj, hoj, hall⟩ := mem_ready.1 hj
      have hnot : ∀ e ∈ oj.after, Region.binds md e = true → e.on ≠ i := fun e he hb heq => by
        have h1 := hall e he hb
        have h0 := (mem_ready.1 hr).1
        rw [heq] at h1
        rcases Nat.lt_or_ge i listed.size with h' | h'
        · simp [h'] at h0 h1; rw [h0] at h1; cases h1
        · simp [Array.getElem?_eq_none h'] at h1
      have h2 := wpOpIn_putIf hF hnd hoj (hfree j oj hoj hji hjun hnot) (fun cs b => hsel i oi cs b hi) (fun cs b => hsel j oj cs b hoj) hQ hy h1
      have hfree' : ∀ k ok, ops[k]? = some ok → k ≠ i → (listed.setIfInBounds j true).getD k true = false →
          (∀ e ∈ ok.after, Region.binds md e = true → e.on ≠ i) → oi.apart ops ok = true := fun k ok hk hki hun hno => by
        refine hfree k ok hk hki ?_ hno
        by_cases hjk : j = k
        · subst hjk; exact hjun
        · rw [getD_set_ne true hjk] at hun; exact hun
      refine wpOpIn_mono (fun a' w' h3 => ⟨h3.2.1, ih (listed.setIfInBounds j true) a' w' hfree' (ready_mono hr (Ne.symm hji)) h3.1 h3.2.1 ?_⟩) h2
      rw [Array.setIfInBounds_comm _ _ hji]
      exact h3.2.2
theorem wpAnyHR_take (hF : ∀ f, F.fn f) (hnd : noDefer ops = true) {i : Nat} {oi : Oper} {v : Value} {fuel : Nat} {listed : Array Bool} {a : Act} {w : World} (hi : ops[i]? = some oi)
    (hs : Region.noSelect ops = true) (hf : Region.free md ops listed i = true) (hr : (Region.ready md ops listed).contains i = true)
    (hQ : ∀ c a w, Q (.panic c) (a.put oi.dst v) w → Q (.panic c) a w) (hy : YieldsIf P ops S oi v a) (hS : S w)
    (h : wpAnyHR F n P md ops Q S fuel (listed.setIfInBounds i true) (a.put oi.dst v) w) : wpAnyHR F n P md ops Q S (fuel + 1) listed a w :=
  wpAnyHR_first hF hnd hi (Region.noSelect_spec hs) hQ fuel listed a w (Region.free_spec hi hf) (by simpa using hr) hy hS h
theorem wpAnyHR_done {listed : Array Bool} {a : Act} {w : World} (hr : Region.ready md ops listed = []) (h : Q .normal a w) :
    ∀ fuel, wpAnyHR F n P md ops Q S fuel listed a w
  | 0 => ⟨hr, h⟩
  | _ + 1 => ⟨fun _ => h, by rw [hr]; simp⟩
theorem wpAnyHR_one {i : Nat} {o : Oper} {fuel : Nat} {listed : Array Bool} {a : Act} {w : World} (hr : Region.ready md ops listed = [i]) (ho : ops[i]? = some o)
    (h : ∀ K' : Act → World → Prop, (∀ a w, S w ∧ wpAnyHR F n P md ops Q S fuel (listed.setIfInBounds i true) a w → K' a w) → if Region.wanted o (yielded ops a.tmps) = true then Oper.wpIn F n P o a w K' Q else (∀ f, o.about P w a.eval = some f → F.fn f) ∧ K' (a.put o.dst undef) w) :
    wpAnyHR F n P md ops Q S (fuel + 1) listed a w :=
  ⟨fun h0 => absurd (hr ▸ h0) (by simp), fun j hj => by
    rw [hr] at hj
    obtain rfl := List.mem_singleton.1 hj
    exact wpOpIn_step ho h⟩
theorem wpIn_region_held {id : Nat} {a : Act} {w : World} (S : World → Prop) (hm : P.follows .mixedOrders = true)
    (h : wpAnyHR F n P .any ops Q S ops.size (Array.replicate ops.size false) a w.drew) : (Code.region id ops true).wpIn F n P Q a w :=
  wpIn_region_any hm (wpAnyIn_of_held _ _ _ _ h)
end
end Go.Proofs.YtcbebefdbdppdaaGreat
namespace Go.Proofs.YtcbebefdbdppdaaGreat
open Go.RowKit Go.Maps
attribute [local go_sem] Oper.semAt_some
def struckN : Nat → Wnd → Wnd
  | 0, X => X
  | i + 1, X => ((struckN i X).struck false).1
theorem struckN_okn {X : Wnd} {k : Nat} (h : X.Okn k) : ∀ i, (struckN i X).Okn (k + i)
  | 0 => h
  | i + 1 => struck_okn (struckN_okn h i) false
theorem wread_fst (X : Wnd) {α : Type} (r : List α × Int) : (wread X r).1 = (X.struck false).1 := by unfold wread; split <;> rfl
theorem hd_setKey {h : Hd} (hs : h.st.length = 8) (k : List UInt8) : (hdCells h).setIfInBounds 11 (strV k) = hdCells { h with key := k } := by
  obtain ⟨a0, a1, a2, a3, a4, a5, a6, a7, hst⟩ := lab_eight hs
  unfold hdCells
  rw [hst]
  rfl
theorem all_any (d : Value) (want : Hd) (w : World) (h1 : ∃ t v, d = .iface t v) : Calls Tryz.prog 25 #[d, hdV want] w fun e w' =>
    e = .returned (.func (.func 77) #[] #[.pointer (some ⟨w.heap.size, 0, none⟩), .pointer (some ⟨w.heap.size + 1, 0, none⟩)]) ∧ w' = (w.alloc (.cells #[d] 72)).alloc (.cells (hdCells want) 28) := by
  obtain ⟨t, v, rfl⟩ := h1
  unfold hdV
  generalize hdCells want = CW
  go_enter Tryz.func25, Tryz.ntmps25
  go_wp2
  go_ret
  exact ⟨rfl, rfl⟩
theorem Touch.put_ {G : Nat → Prop} {a b : World} (h : Touch G a b) {l : Nat} (hl : G l) (o : Obj) : Touch G a (b.putObj l o) :=
  ⟨h.os, h.tape, h.output, by rw [World.putObj_size]; exact h.size, fun k hk hn => (World.putObj_heap_other (fun e => hn (by rw [e]; exact hl))).trans (h.block k hk hn)⟩
theorem Blk.put_ {w : World} {g : Nat} {t : TypeId} {cs : Array Value} (h : Blk w g t cs) {l : Nat} (hl : g ≠ l) (o : Obj) : Blk (w.putObj l o) g t cs := (World.putObj_heap_other hl).trans h
theorem load_yields {P : Program} {o : Oper} {a : Act} {w : World} (ty : TypeId) (x : Operand) (ho : o.op = .load ty x) (ad : Addr) (hx : a.eval x = .pointer (some ad)) (v : Value) (hrun : (loadVar ty ad).run P w = .ok v w) :
    (execOp a.eval o).run P w = .ok (.value v) w := by
  unfold execOp
  simp only [ho, hx, Instr.loadAt, Instr.sureAddr, Sem.run_bind, Sem.run_pure, Result.andThen_ok, hrun]
theorem Touch.one_put (l : Nat) (w : World) (o : Obj) : Touch (fun k => k = l) w (w.putObj l o) := Touch.put_ (G := fun k => k = l) (Touch.refl _ w) rfl o
theorem RoundIn.inRound {F : Fence} {n : Nat} {P : Program} {k : Nat} {f : FuncId} {tmps : Array Value} {assign body : Code} {w : World} {R : Ending → World → Prop} (l : Nat)
    (h : RoundIn F n P k f tmps assign body w R) : RoundIn (F.inRound l) n P k f tmps assign body w R := h
theorem dedup_length (l : List (List UInt8)) : (dedup l).length ≤ l.length := by
  induction l with
  | nil => exact Nat.le_refl _
  | cons x r ih =>
    unfold dedup
    split
    · exact Nat.le_succ_of_le ih
    · exact Nat.succ_le_succ ih
theorem keysL_length (l : List (List UInt8)) (x : Int) : (keysL l x).length ≤ l.length := by
  unfold keysL underK
  split
  · rw [List.length_mergeSort]
    exact Nat.le_trans (dedup_length _) (List.length_filterMap_le _ _)
  · exact Nat.zero_le _
structure AllSt (B B0 B1 Y0 q p : Nat) (Dv Yv : Value) (st : Hd) (F : Nat → Prop) (S : Drv) (X : Wnd) (m : Nat) (W : World) : Prop where
  wd : WD W q p X S F
  disk : Blk W B0 72 #[Dv]
  yld : Blk W Y0 166 #[Yv]
  head : ∃ key, Blk W B1 28 (hdCells { st with key := key })
  far : B + 2 ≤ m
  le : m ≤ W.heap.size
theorem AllSt.touch {B B0 B1 Y0 q p : Nat} {Dv Yv : Value} {st : Hd} {F G : Nat → Prop} {S : Drv} {X : Wnd} {m : Nat} {W W' : World} (h : AllSt B B0 B1 Y0 q p Dv Yv st F S X m W) (ht : Touch G W W')
    (hF : ∀ k, F k → ¬G k) (h0 : ¬G B0) (h1 : ¬G B1) (h2 : ¬G Y0) : AllSt B B0 B1 Y0 q p Dv Yv st F S X m W' :=
  ⟨h.wd.keep ht hF, h.disk.touch ht h0, h.yld.touch ht h2, by obtain ⟨key, hk⟩ := h.head; exact ⟨key, hk.touch ht h1⟩, h.far, Nat.le_trans h.le ht.size⟩
structure AR where
  m : Nat
  i : Nat
  key : List UInt8
  W1 : World
set_option maxRecDepth 100000 in
set_option maxHeartbeats 8000000 in
theorem all1_in (n l B0 B1 : Nat) (q p : Nat) (X : Wnd) (S : Drv) (F : Nat → Prop) (W : World) (st : Hd) (hst : st.st.length = 8) (ct : Nat) (hn : size S.now ≤ 2199023255552) (hnm : ∀ nm ∈ dnames S.now, nm.length ≤ 1024) (hdl : (dnames S.now).length ≤ 2199023255552) (hrd : ∀ nm, (S.read nm).1.length ≤ 1099511627776)
    (hd : WD W q p X S F) (hF : ∀ k, F k → k < W.heap.size) (hX : X.Okn ct) (hct : ct + 1 + (dnames S.now).length ≤ 1152921504606846976) (hS : S.Small) (Y : Wnd) (ls : List (List UInt8)) (x : Int) (hy : wread X (dnames S.now, (0 : Int)) = (Y, ls, x))
    (hb0 : Blk W B0 72 #[.iface 36 (.pointer (some ⟨q, 0, none⟩))]) (hb1 : ∃ key, Blk W B1 28 (hdCells { st with key := key })) (hF0 : ¬F B0) (hF1 : ¬F B1)
    (G : Nat → Prop) (hG : ∀ k, G k → k < W.heap.size) (hGF : ∀ k, F k → ¬G k) (hG0 : ¬G B0) (hG1 : ¬G B1) (J : Nat → Nat → World → Prop) (Jx : World → Prop)
    (hJ : ∀ (m i : Nat) (W1 : World) (l : Nat) (o o' : Obj), W.heap.size ≤ l → W1.heap[l]? = some o → o.isCells = false → J m i W1 → J m i (W1.putObj l o'))
    (hJx : ∀ (W1 : World) (l : Nat) (o o' : Obj), W.heap.size ≤ l → W1.heap[l]? = some o → o.isCells = false → Jx W1 → Jx (W1.putObj l o'))
    (h0 : ∀ W1, WD W1 q p Y S F → Touch F W W1 → J W1.heap.size 0 W1)
    (hY : ∀ m i key v W1 W2 Z ds e, (keysL ls x)[i]? = some key → W.heap.size ≤ m → m ≤ W1.heap.size → J m i W1 → Touch (fun k => F k ∨ k = B1) W1 W2 → wread (struckN i Y) (S.read (objN key)) = (Z, ds, e) → LookAt W2 W1.heap.size ds e { st with key := key } v → WD W2 q p (struckN (i + 1) Y) S F → Blk W2 B1 28 (hdCells { st with key := key }) →
      YieldAt Fence.wide (n - 1) Tryz.prog l #[strV key, v] W2 fun e W3 =>
      (e = .returned (.bool true) ∧ J m (i + 1) W3 ∧ Touch (fun k => G k ∨ m ≤ k) W2 W3) ∨ (e = .returned (.bool false) ∧ Jx W3 ∧ Touch (fun k => G k ∨ m ≤ k) W2 W3)) :
    CallsIn Fence.wide n Tryz.prog 77 #[.func (.yield l) #[] #[], .pointer (some ⟨B0, 0, none⟩), .pointer (some ⟨B1, 0, none⟩)] W fun e W' => (∃ v, e = .returned v) ∧ ((∃ m, J m (keysL ls x).length W') ∨ Jx W') := by
  have HD := Lib.hid hd
  have HX := Lib.hid hX
  have HJ := Lib.hid hJ
  have HJX := Lib.hid hJx
  have HY := Lib.hid hY
  have H0 := Lib.hid h0
  obtain ⟨ks, hks⟩ : ∃ ks, ks = keysL ls x := ⟨_, rfl⟩
  rw [← hks] at HY ⊢
  have HKS := Lib.hid hks
  clear hks
  have HG := Lib.hid (And.intro hG (And.intro hGF (And.intro hG0 hG1)))
  have HF := Lib.hid (And.intro hF (And.intro hF0 hF1))
  obtain ⟨Dv, hDv⟩ : ∃ Dv : Value, Dv = .iface 36 (.pointer (some ⟨q, 0, none⟩)) := ⟨_, rfl⟩
  have HDV := Lib.hid hDv
  rw [← hDv] at hb0
  have HB0 := Lib.hid hb0
  have HB1 := Lib.hid hb1
  have hb0l : B0 < W.heap.size := hb0.lt
  have hb1l : B1 < W.heap.size := by obtain ⟨_, h⟩ := hb1; exact h.lt
  have HN := Lib.hid (And.intro hn (And.intro hnm (And.intro hdl hrd)))
  have HYY := Lib.hid hy
  have HS := Lib.hid hS
  have HCT := Lib.hid hct
  have HST := Lib.hid hst
  have hdd : ∀ k : Nat, (Fence.wide.depth.isSome = true → 1 ≤ k) := fun k h => by cases h
  have hf1 : Fence.wide.fn 78 := trivial
  have hc0 : W.cell? ⟨B0, 0, none⟩ = some Dv := hb0.cell 0
  clear hd hF hF0 hF1 hX hct hS hy hb0 hb1 hG hGF hG0 hG1 hJ hJx h0 hY hn hnm hdl hrd hDv hst
  refine callsIn_of_wp_marks Tryz.func77 rfl trivial ?_ rfl
  simp only [Tryz.ntmps77, List.size_toArray, List.length_cons, List.length_nil, Nat.reduceAdd, Nat.reduceSub, Array.replicate_succ, Array.replicate_zero, List.push_toArray, List.append_toArray, List.nil_append, List.cons_append]
  gi_wp2_with ((try refine ⟨hdd _, ?_⟩); gi_at_call 78; refine (callsIn_wide.2 (each_any Dv _ ⟨_, _, HDV.out⟩)).mono ?_; rintro e W1 ⟨rfl, rfl⟩)
  obtain ⟨Yv, hYv⟩ : ∃ Yv : Value, Yv = .func (.yield l) #[] #[] := ⟨_, rfl⟩
  have HYV := Lib.hid hYv
  obtain ⟨Wb, hWb⟩ : ∃ Wb, Wb = (W.alloc (.cells #[.func (.yield l) #[] #[]] 166)).alloc (.cells #[Dv] 72) := ⟨_, rfl⟩
  have hsz : Wb.heap.size = W.heap.size + 2 := by rw [hWb, alloc_size, alloc_size]
  have HBB : Hid (Below W.heap.size W Wb) := Lib.hid (by rw [hWb]; exact ((Below.refl _ W).alloc (Nat.le_refl _) _).alloc (by rw [alloc_size]; omega) _)
  have HYB : Hid (Blk Wb W.heap.size 166 #[Yv]) := Lib.hid (by rw [hWb, hYv]; exact (Blk.new W _ _).alloc _)
  have HDB : Hid (Blk Wb (W.heap.size + 1) 72 #[Dv]) := Lib.hid (by rw [hWb]; exact blk_last _ _ _ _ (by rw [alloc_size]))
  rw [← hWb, ← hYv]
  clear hWb hYv hc0
  let GG : Nat → Prop := fun k => G k ∨ F k ∨ k = B1 ∨ k = Wb.heap.size ∨ k = Wb.heap.size + 1
  let St : Nat → Nat → World → Prop := fun m i V => J m i V ∧ AllSt Wb.heap.size B0 B1 W.heap.size q p Dv Yv st F S (struckN i Y) m V
  have HST2 : Hid (∀ m i (V : World) (r : Nat) (o o' : Obj), Wb.heap.size ≤ r → r < Wb.heap.size + 2 → V.heap[r]? = some o → o.isCells = false → St m i V → St m i (V.putObj r o')) := Lib.hid fun m i V r o o' h1 h2 h3 h4 h5 =>
    ⟨HJ.out m i V r o o' (by omega) h3 h4 h5.1, h5.2.touch (Touch.one_put r V o') (fun k hk e => by have := HF.out.1 k hk; omega) (by omega) (by omega) (by omega)⟩
  refine rangeFunc_any (Q := _) (w := Wb) rfl (hdd _) (gf := 140) (lb := #[.pointer (some ⟨W.heap.size + 1, 0, none⟩)]) rfl trivial (enters_of Tryz.func140 (by kernel_rfl) rfl) (fun x : AR => #[strV x.key]) (fun _ => rfl)
    (fun x V => V = x.W1 ∧ ks[x.i]? = some x.key ∧ W.heap.size ≤ x.m ∧ St x.m x.i V)
    (fun x V => Touch (fun k => GG k ∨ x.m ≤ k) x.W1 V ∧ St x.m (x.i + 1) V)
    (fun _ c V => c = .ret ∧ Jx V) (fun V => Below Wb.heap.size Wb V ∧ Wb.heap.size + 2 ≤ V.heap.size) (fun V => ∃ m, J m ks.length V) (fun c V => c = .ret ∧ Jx V)
    ?hseq ?hJ ?hIx ?hE ?hEx ?h0
    (fun x a V => a = { tmps := #[Yv, .pointer (some ⟨B0, 0, none⟩), .pointer (some ⟨B1, 0, none⟩), .pointer (some ⟨W.heap.size, 0, none⟩), strV x.key, Dv, .func (.func 140) #[] #[.pointer (some ⟨W.heap.size + 1, 0, none⟩)], strV x.key, undef, undef, undef, undef, undef, undef, undef, undef, undef], defers := [] } ∧ ks[x.i]? = some x.key ∧ W.heap.size ≤ x.m ∧ Touch (fun k => GG k ∨ x.m ≤ k) x.W1 V ∧ St x.m x.i V)
    ?hM ?hassign ?hbody ?hdone ?hstop
  case hseq =>
    intro l' K Kx hK hKx hround V hV hI0 hKV
    obtain ⟨hI1, hI2⟩ := hI0
    have hB : Below W.heap.size W V := HBB.out.trans (hI1.mono HBB.out.size)
    have hFV : ∀ k, F k → k < V.heap.size := fun k hk => Nat.lt_of_lt_of_le (HF.out.1 k hk) hB.size
    have hnF : ∀ k, W.heap.size ≤ k → ¬F k := fun k hk h => by have := HF.out.1 k h; omega
    have hdk : V.cell? ⟨W.heap.size + 1, 0, none⟩ = some (.iface 36 (.pointer (some ⟨q, 0, none⟩))) := by
      rw [← HDV.out]; exact (HDB.out.below hI1 HDB.out.lt).cell 0
    have h := each1_in (n - 1) l' (W.heap.size + 1) q p X S F V HN.out.1 HN.out.2.1 HN.out.2.2.1 (HD.out.below hB) hFV (HX.out.ok (by have := HCT.out; omega)) HS.out Y ls x HYY.out hdk
      GG (fun k hk => by
        rcases hk with h | h | h | h | h
        · have := HG.out.1 k h; have := hB.size; omega
        · exact hFV k h
        · have := hB.size; omega
        · omega
        · omega)
      (fun m i V2 => St m i V2 ∧ K V2) (fun V2 => Jx V2 ∧ Kx .ret V2) ?g0 ?gY
    case g0 =>
      intro V1 hd1 ht1
      refine ⟨⟨H0.out V1 hd1 ((Touch.of_below hB).trans (ht1.mono fun k _ h => .inl h)), hd1, ?_, ?_, ?_, ?_, Nat.le_refl _⟩, hK V V1 (Lies.touch ht1 (hnF _ (by omega)) (hnF _ (by omega)) hI2) hKV⟩
      · exact (HB0.out.below hB HB0.out.lt).touch ht1 HF.out.2.1
      · exact (HYB.out.below hI1 HYB.out.lt).touch ht1 (hnF _ (Nat.le_refl _))
      · obtain ⟨key, hk⟩ := HB1.out
        exact ⟨key, (hk.below hB hk.lt).touch ht1 HF.out.2.2⟩
      · exact Nat.le_trans hI2 ht1.size
    case gY =>
      rintro m i key V1 hkey hm ⟨hst1, hk1⟩
      refine (YieldAt.any rfl _ (hround ⟨m, i, key, V1⟩ V1 ⟨rfl, by rw [HKS.out]; exact hkey, Nat.le_trans hB.size hm, hst1⟩ hk1)).mono ?_
      rintro e V2 (⟨rfl, ⟨ht2, hst2⟩, hk2⟩ | ⟨rfl, c, ⟨rfl, hjx⟩, hkx⟩)
      · exact .inl ⟨rfl, ⟨hst2, hk2⟩, ht2⟩
      · exact .inr ⟨rfl, hjx, hkx⟩
    refine CallsIn.mono h ?_
    rintro e V2 ⟨hv, (⟨m, ⟨hj, _⟩, hk⟩ | ⟨hjx, hkx⟩)⟩
    · exact ⟨hv, .inl ⟨⟨m, by rw [HKS.out]; exact hj⟩, hk⟩⟩
    · exact ⟨hv, .inr ⟨.ret, ⟨rfl, hjx⟩, hkx⟩⟩
  case hJ => exact fun x V r o o' h1 h2 h3 h4 h5 => ⟨h5.1.put_ (.inl (.inr (.inr (.inr (by omega))))) o', HST2.out _ _ V r o o' h1 h2 h3 h4 h5.2⟩
  case hIx => exact fun _ c V r o o' h1 h2 h3 h4 h5 => ⟨h5.1, HJX.out V r o o' (by omega) h3 h4 h5.2⟩
  case hE => exact fun V r o o' h1 h2 h3 h4 h5 => by obtain ⟨m, hm⟩ := h5; exact ⟨m, HJ.out m _ V r o o' (by omega) h3 h4 hm⟩
  case hEx => exact fun c V r o o' h1 h2 h3 h4 h5 => ⟨h5.1, HJX.out V r o o' (by omega) h3 h4 h5.2⟩
  case h0 => exact fun o1 o2 => ⟨((Below.refl _ Wb).alloc (Nat.le_refl _) _).alloc (by rw [alloc_size]; omega) _, by rw [alloc_size, alloc_size]; exact Nat.le_refl _⟩
  case hM => exact fun x a V r o o' h1 h2 h3 h4 h5 => ⟨h5.1, h5.2.1, h5.2.2.1, h5.2.2.2.1.put_ (.inl (.inr (.inr (.inr (by omega))))) o', HST2.out _ _ V r o o' h1 h2 h3 h4 h5.2.2.2.2⟩
  case hassign =>
    rintro l' x V K ⟨rfl, h1, h2, h3⟩ hV hK
    gi_wp2
    exact hK _ _ (Lies.refl _ _) ⟨rfl, h1, h2, Touch.refl _ _, h3⟩
  case hbody =>
    rintro l' y a V ⟨rfl, hkey, hm, ht, hj, ha⟩ hV
    have HKEY := Lib.hid hkey
    have HM := Lib.hid hm
    have HT := Lib.hid ht
    have HJ1 := Lib.hid hj
    have HA := Lib.hid ha
    obtain ⟨key0, hk0⟩ := ha.head
    have HK0 := Lib.hid hk0
    have hc11 : V.cell? ⟨B1, 11, none⟩ = some (strV key0) := (hk0.cell 11).trans (hd_key16 HST.out)
    have hf11 := hk0.frozen 11
    obtain ⟨tt, htt⟩ : ∃ tt : ByteArray, strV y.key = .string tt := ⟨_, rfl⟩
    obtain ⟨t0, ht0⟩ : ∃ t0 : ByteArray, strV key0 = .string t0 := ⟨_, rfl⟩
    rw [ht0] at hc11
    rw [htt]
    have HTT := Lib.hid htt
    clear hkey hm ht hj ha hk0 htt ht0
    gi_wp2
    have HK2 : Hid (Blk (V.setCell ⟨B1, 11, none⟩ (.string tt)) B1 28 (hdCells { st with key := y.key })) := Lib.hid (by
      have h9 := HK0.out.set_ 11 (.string tt)
      rw [← HTT.out, hd_setKey (h := { st with key := key0 }) HST.out] at h9
      rw [← HTT.out]; exact h9)
    obtain ⟨V1, hV1⟩ : ∃ V1, V1 = V.setCell ⟨B1, 11, none⟩ (.string tt) := ⟨_, rfl⟩
    have hV1s : V1.heap.size = V.heap.size := by rw [hV1]; simp
    have HT1 : Hid (Touch (fun k => k = B1) V V1) := Lib.hid (by rw [hV1]; exact Touch.setCell (F := fun k => k = B1) V ⟨B1, 11, none⟩ (.string tt) rfl)
    rw [← hV1] at HK2 ⊢
    clear hV1 hc11 hf11
    have HA1 : Hid (WD V1 q p (struckN y.i Y) S F ∧ Blk V1 B0 72 #[Dv] ∧ Blk V1 W.heap.size 166 #[Yv]) := Lib.hid
      ⟨HA.out.wd.keep HT1.out (fun k hk e => HF.out.2.2 (by rw [← e]; exact hk)), HA.out.disk.touch HT1.out (fun e => by
        have h1 := HB0.out
        have h2 := HB1.out
        obtain ⟨_, h2⟩ := h2
        exact Blk.ne_ h1 h2 (by decide) e), HA.out.yld.touch HT1.out (by omega)⟩
    obtain ⟨Z, ds, e, hrd⟩ : ∃ Z ds e, wread (struckN y.i Y) (S.read (objN y.key)) = (Z, ds, e) := ⟨_, _, _, rfl⟩
    have HRD := Lib.hid hrd
    have hil : y.i < ks.length := (List.getElem?_eq_some_iff.1 HKEY.out).1
    have HIL := Lib.hid hil
    obtain ⟨CW, hCW⟩ : ∃ CW, CW = hdCells { st with key := y.key } := ⟨_, rfl⟩
    have HCW := Lib.hid hCW
    rw [← hCW] at HK2
    clear hrd hil hCW
    let SS : World → Prop := fun U => U.cell? ⟨W.heap.size, 0, none⟩ = some Yv ∧ U.cell? ⟨B0, 0, none⟩ = some Dv ∧ (loadVar 28 ⟨B1, 0, none⟩).run Tryz.prog U = .ok (.agg CW) U
    have HCS : Hid (CW.size = 16) := Lib.hid (by rw [HCW.out]; exact hdCells_size HST.out)
    have HSS : Hid (∀ U, Blk U B0 72 #[Dv] → Blk U W.heap.size 166 #[Yv] → Blk U B1 28 CW → SS U) := Lib.hid fun U h1 h2 h3 => ⟨h2.cell 0, h1.cell 0, load_head h3 HCS.out⟩
    have HS1 : Hid (SS V1.drew) := Lib.hid (HSS.out _ HA1.out.2.1 HA1.out.2.2 HK2.out)
    refine wpIn_region_held SS (by kernel_rfl) ?_
    refine wpAnyHR_take (fun _ => trivial) (by kernel_rfl) (i := 0) (oi := ⟨_, _, _, _, _, _⟩) (v := ?_) rfl (by kernel_rfl) (by kernel_rfl) (by kernel_rfl) (fun _ _ _ h => h) (Or.inl ⟨by kernel_rfl, ?_⟩) HS1.out ?_
    rotate_left
    · intro U hU
      obtain ⟨hU0, _⟩ := hU; go_simp; try with_reducible rfl
    simp only [Act.put, List.setIfInBounds_toArray, List.set_cons_zero, List.set_cons_succ]
    refine wpAnyHR_take (fun _ => trivial) (by kernel_rfl) (i := 1) (oi := ⟨_, _, _, _, _, _⟩) (v := ?_) rfl (by kernel_rfl) (by kernel_rfl) (by kernel_rfl) (fun _ _ _ h => h) (Or.inl ⟨by kernel_rfl, ?_⟩) HS1.out ?_
    rotate_left
    · intro U hU
      clear hU; go_simp; try with_reducible rfl
    simp only [Act.put, List.setIfInBounds_toArray, List.set_cons_zero, List.set_cons_succ]
    refine wpAnyHR_take (fun _ => trivial) (by kernel_rfl) (i := 2) (oi := ⟨_, _, _, _, _, _⟩) (v := ?_) rfl (by kernel_rfl) (by kernel_rfl) (by kernel_rfl) (fun _ _ _ h => h) (Or.inl ⟨by kernel_rfl, ?_⟩) HS1.out ?_
    rotate_left
    · intro U hU
      obtain ⟨_, hU0, _⟩ := hU; go_simp; try with_reducible rfl
    simp only [Act.put, List.setIfInBounds_toArray, List.set_cons_zero, List.set_cons_succ]
    refine wpAnyHR_take (fun _ => trivial) (by kernel_rfl) (i := 3) (oi := ⟨_, _, _, _, _, _⟩) (v := .agg CW) rfl (by kernel_rfl) (by kernel_rfl) (by kernel_rfl) (fun _ _ _ h => h) (Or.inl ⟨by kernel_rfl, fun U hU => load_yields 28 (.tmp 2) rfl ⟨B1, 0, none⟩ rfl (.agg CW) hU.2.2⟩) HS1.out ?_
    simp only [Act.put, List.setIfInBounds_toArray, List.set_cons_zero, List.set_cons_succ]
    refine wpAnyHR_one (i := 4) (by kernel_rfl) rfl ?_
    intro K4 hK4
    go_simp
    refine ⟨trivial, hdd _, ?_⟩
    have hkl : 1 ≤ y.key.length ∧ y.key.length ≤ 255 := by
      have h1 : y.key ∈ keysL ls x := by rw [← HKS.out]; exact List.mem_of_getElem? HKEY.out
      unfold keysL at h1
      split at h1
      · obtain ⟨nm, _, h2⟩ := mem_underK.1 h1; exact keyN_length h2
      · cases h1
    have hkn : ks.length ≤ (dnames S.now).length := by
      rw [HKS.out]
      have h9 : ls.length ≤ (dnames S.now).length := by
        have h8 : (wread X (dnames S.now, (0 : Int))).2.1.length ≤ (dnames S.now).length := by
          unfold wread
          split
          · exact Nat.le_refl _
          · exact Nat.zero_le _
        rw [HYY.out] at h8
        exact h8
      exact Nat.le_trans (keysL_length ls x) h9
    have HYO : Hid (Y.Okn (ct + 1)) := Lib.hid (by have h9 := wread_fst X (dnames S.now, (0 : Int)); rw [HYY.out] at h9; rw [show Y = (X.struck false).1 from h9]; exact struck_okn HX.out false)
    have HLK := Lib.hid (blook_any q p (struckN y.i Y) S F { st with key := y.key } HST.out hkl.1 hkl.2 V1.drew (HA1.out.1.below (below_drew1 (Below.refl _ _))) (fun k hk => Nat.lt_of_lt_of_le (HF.out.1 k hk) (by show W.heap.size ≤ V1.heap.size; rw [hV1s]; omega))
      ((struckN_okn (X := Y) HYO.out y.i).ok (by have := HCT.out; have := HIL.out; omega)) HS.out Z ds e HRD.out (by
        have h8 : (wread (struckN y.i Y) (S.read (objN y.key))).2.1.length ≤ (S.read (objN y.key)).1.length := by
          unfold wread
          split
          · exact Nat.le_refl _
          · exact Nat.zero_le _
        rw [HRD.out] at h8
        exact Nat.le_trans h8 (HN.out.2.2.2 _)))
    unfold hdV at HLK
    rw [← HDV.out, ← HCW.out] at HLK
    refine (CallsIn.inRound l' (callsIn_wide.2 HLK.out)).mono ?_
    rintro e' U ⟨v, rfl, hlk, hdU, htU⟩
    have htV : Touch F V1 U := ⟨htU.os, htU.tape, htU.output, htU.size, htU.block⟩
    have hnF : ∀ k, W.heap.size ≤ k → ¬F k := fun k hk h => by have := HF.out.1 k h; omega
    have HU2 : Hid (WD U q p (struckN (y.i + 1) Y) S F ∧ Blk U B0 72 #[Dv] ∧ Blk U W.heap.size 166 #[Yv] ∧ Blk U B1 28 CW) := Lib.hid
      ⟨by
        have h9 := wread_fst (struckN y.i Y) (S.read (objN y.key))
        rw [HRD.out] at h9
        rw [show struckN (y.i + 1) Y = ((struckN y.i Y).struck false).1 from rfl, ← show Z = ((struckN y.i Y).struck false).1 from h9]
        exact hdU, HA1.out.2.1.touch htV HF.out.2.1, HA1.out.2.2.touch htV (hnF _ (Nat.le_refl _)), HK2.out.touch htV HF.out.2.2⟩
    have HTU : Hid (Touch (fun k => F k ∨ k = B1) V U) := Lib.hid ((HT1.out.mono fun k _ h => .inr h).trans (htV.mono fun k _ h => .inl (.inl h)))
    have HYA := Lib.hid (HY.out y.m y.i y.key v V U Z ds e HKEY.out HM.out HA.out.le HJ1.out HTU.out HRD.out (by rw [← hV1s]; exact hlk) HU2.out.1 (by rw [← HCW.out]; exact HU2.out.2.2.2))
    rw [HTT.out] at HYA
    refine hK4 _ _ ⟨HSS.out U HU2.out.2.1 HU2.out.2.2.1 HU2.out.2.2.2, ?_⟩
    clear hK4 K4 hlk hdU htU htV HLK
    obtain ⟨fn, tmps, assign, body, hyr, hR⟩ := HYA.out
    have HRR := Lib.hid hR
    clear hR HYA
    have eY := HYV.out
    rw [eY]
    refine wpAnyHR_one (i := 5) (by kernel_rfl) rfl ?_
    intro K5 hK5
    go_simp
    refine ⟨hdd _, ?_⟩
    refine (RoundIn.inRound l' (RoundIn.any rfl HRR.out)).mono ?_
    clear HRR
    have hY0 : W.heap.size < y.m := by have := HA.out.far; omega
    have hGm : ∀ k, W.heap.size ≤ k → k < y.m → ¬(G k ∨ y.m ≤ k) := fun k h1 h2 h => by
      rcases h with h | h
      · have := HG.out.1 k h; omega
      · omega
    have HLY : Hid (∀ U2, Touch (fun k => G k ∨ y.m ≤ k) U U2 → Lies Wb.heap.size V U2) := Lib.hid fun U2 ht2 =>
      (Lies.touch HTU.out (fun h => by rcases h with h | h; exact hnF _ (by omega) h; omega) (fun h => by rcases h with h | h; exact hnF _ (by omega) h; omega) (by have := HA.out.far; have := HA.out.le; omega)).trans
        (Lies.touch ht2 (hGm _ (by omega) (by have := HA.out.far; omega)) (hGm _ (by omega) (by have := HA.out.far; omega)) (by have := HA.out.far; have := HA.out.le; have := HTU.out.size; omega))
    rintro e2 U2 (⟨rfl, hJ2, ht2⟩ | ⟨rfl, hjx, ht2⟩)
    · have hS2 : SS U2 := HSS.out U2 (HU2.out.2.1.touch ht2 (fun h => by rcases h with h | h; exact HG.out.2.2.1 h; omega)) (HU2.out.2.2.1.touch ht2 (hGm _ (Nat.le_refl _) hY0)) (HU2.out.2.2.2.touch ht2 (fun h => by rcases h with h | h; exact HG.out.2.2.2 h; omega))
      refine hK5 _ _ ⟨hS2, ?_⟩
      clear hK5 K5
      refine wpAnyHR_one (i := 6) (by kernel_rfl) rfl ?_
      intro K6 hK6
      go_simp
      refine hK6 _ _ ⟨hS2, ?_⟩
      clear hK6 K6
      refine wpAnyHR_done (by kernel_rfl) ?_ _
      clear hyr
      gi_wp2
      refine ⟨HLY.out U2 ht2, ?_, hJ2, ?_⟩
      · refine HT.out.trans ((HTU.out.mono fun k _ h => ?_).trans (ht2.mono fun k _ h => ?_))
        · rcases h with h | h
          · exact .inl (.inl (.inr (.inl h)))
          · exact .inl (.inl (.inr (.inr (.inl h))))
        · rcases h with h | h
          · exact .inl (.inl (.inl (.inl h)))
          · exact .inl (.inl (.inr h))
      · refine ⟨HU2.out.1.keep ht2 (fun k hk h => ?_), HU2.out.2.1.touch ht2 (fun h => by rcases h with h | h; exact HG.out.2.2.1 h; omega), HU2.out.2.2.1.touch ht2 (hGm _ (Nat.le_refl _) hY0), ⟨y.key, ?_⟩, HA.out.far, Nat.le_trans HA.out.le (Nat.le_trans HTU.out.size ht2.size)⟩
        · rcases h with h | h
          · exact HG.out.2.1 k hk h
          · have := HF.out.1 k hk; omega
        · rw [← HCW.out]
          exact HU2.out.2.2.2.touch ht2 (fun h => by rcases h with h | h; exact HG.out.2.2.2 h; omega)
    · have hS2 : SS U2 := HSS.out U2 (HU2.out.2.1.touch ht2 (fun h => by rcases h with h | h; exact HG.out.2.2.1 h; omega)) (HU2.out.2.2.1.touch ht2 (hGm _ (Nat.le_refl _) hY0)) (HU2.out.2.2.2.touch ht2 (fun h => by rcases h with h | h; exact HG.out.2.2.2 h; omega))
      refine hK5 _ _ ⟨hS2, ?_⟩
      clear hK5 K5
      refine wpAnyHR_one (i := 6) (by kernel_rfl) rfl ?_
      intro K6 hK6
      go_simp
      refine hK6 _ _ ⟨hS2, ?_⟩
      clear hK6 K6
      refine wpAnyHR_done (by kernel_rfl) ?_ _
      clear hyr
      gi_wp2
      exact ⟨HLY.out U2 ht2, rfl, hjx⟩
  case hdone =>
    rintro V ⟨m, hm⟩ hd
    gi_wp2
    refine ⟨by simp, .inl ⟨_, _, rfl, run_takeDeferred hd, ?_⟩⟩
    exact ⟨_, results_none rfl _ _ _, ⟨_, rfl⟩, .inl ⟨m, HJ.out m _ V _ _ _ (by omega) hd rfl hm⟩⟩
  case hstop =>
    rintro c V ⟨rfl, hj⟩ hd
    gi_wp2
    refine ⟨by simp, .inl ⟨_, _, rfl, run_takeDeferred hd, ?_⟩⟩
    exact ⟨_, results_none rfl _ _ _, ⟨_, rfl⟩, .inr (HJX.out V _ _ _ (by omega) hd rfl hj)⟩
end Go.Proofs.YtcbebefdbdppdaaGreat
