/- cairnlaw14: plain, showing.; bay.Keys over a wound.; A range over a function whose iterator turns memory of its own between two rounds: the record of the loop is all that the iterator and the rounds must let lie. -/
import Derived.Test.YtcbebefdbdppdaaGreatM28
import Derived.Test.YtcbebefdbdppdaaGreatM25
import Derived.Test.YtcbebefdbdppdaaGreatM9
import Derived.Test.YtcbebefdbdppdaaGreatM2
import Derived.RangeFuncNested
import Derived.RangeFuncBound
import Derived.RangeFuncCalls
import Derived.RangeFuncLeaves
import Derived.OwnWalkIn
namespace Go.Proofs.YtcbebefdbdppdaaGreat
open Go.RowKit Go.Maps
def plainH (key : List UInt8) : Hd := ⟨[0, 0, 0, 0, 0, 0, 0, 0], 2, 1, 4, key, 10, 2, 3, 5⟩
def plainL : List (List UInt8) := [[9, 8, 7, 6], [5]]
set_option maxRecDepth 100000 in
set_option maxHeartbeats 4000000 in
theorem plain_any (key : List UInt8) (w : World) : Calls Tryz.prog 57 #[strV key] w fun e w' => ∃ g, e = .returned (shV (plainH key) (.slice (some ⟨g, 0, none⟩) 2 2)) ∧ BlksOff w' w'.heap.size (fun k => k < w.heap.size) (some ⟨g, 0, none⟩) 2 plainL ∧ Below w.heap.size w w' := by
  unfold strV
  obtain ⟨s, hs⟩ : ∃ s : ByteArray, s = ⟨key.toArray⟩ := ⟨_, rfl⟩
  have HV : Hid (∀ v, shV (plainH key) v = .agg #[.int .u8 0, .int .u8 0, .int .u8 0, .int .u8 0, .int .u8 0, .int .u8 0, .int .u8 0, .int .u8 0, .int .i64 2, .int .i64 1, .int .i64 4, .string s, .int .i64 10, .int .i64 2, .int .i64 3, .int .i64 5, v]) := Lib.hid (by rw [hs]; exact fun _ => rfl)
  rw [← hs]
  clear hs
  go_enter Tryz.func57, Tryz.ntmps57
  go_wp2
  refine bodyPost_ret (v := shV (plainH key) (.slice (some ⟨w.heap.size + 1 + 1 + 1 + 1, 0, none⟩) 2 2)) (results_cell1 Tryz.results57 _ ⟨w.heap.size, 0, none⟩ rfl _ _ _ (by rw [HV.out]; exact load_sh (((((Blk.new w _ _).alloc _).alloc _).alloc _).alloc _) rfl)) rfl ⟨_, rfl, ?_, ?_⟩
  · refine ⟨rfl, fun ad e => by injection e with e; subst e; simp only [alloc_size]; omega, [.slice (some ⟨w.heap.size + 1 + 1, 0, none⟩) 4 4, .slice (some ⟨w.heap.size + 1 + 1 + 1, 0, none⟩) 1 1], reads_blk (t := 46) (blk_last _ _ _ _ (by simp only [alloc_size])) (by simp only [alloc_size]; omega) rfl, fun j x hx => ?_⟩
    match j, hx with
    | 0, hx =>
      injection hx with hx
      subst hx
      exact ⟨_, _, rfl, reads_blk (t := 5) (((blk_last _ _ _ _ (by simp only [alloc_size])).alloc _).alloc _) (by simp only [alloc_size]; omega) rfl, fun ad e => by injection e with e; subst e; simp only [alloc_size]; omega⟩
    | 1, hx =>
      injection hx with hx
      subst hx
      exact ⟨_, _, rfl, reads_blk (t := 5) ((blk_last _ _ _ _ (by simp only [alloc_size])).alloc _) (by simp only [alloc_size]; omega) rfl, fun ad e => by injection e with e; subst e; simp only [alloc_size]; omega⟩
    | _ + 2, hx => cases hx
  · exact ((((((Below.refl _ w).alloc (Nat.le_refl _) _).alloc (by simp only [alloc_size]; omega) _).alloc (by simp only [alloc_size]; omega) _).alloc (by simp only [alloc_size]; omega) _).alloc (by simp only [alloc_size]; omega) _)
end Go.Proofs.YtcbebefdbdppdaaGreat
namespace Go.Proofs.YtcbebefdbdppdaaGreat
open Go.RowKit Go.Maps
theorem wlist_any (q p : Nat) (X : Wnd) (S : Drv) (F : Nat → Prop)  (w : World) (hn : size S.now ≤ 2199023255552) (h : WD w q p X S F) (hX : X.Ok) (hS : S.Small) :
    Calls Tryz.prog 258 #[.pointer (some ⟨q, 0, none⟩)] w fun e w' =>
      ∃ v, e = .returned (.tuple #[v, .int .i64 (wread X ((dnames S.now, (0 : Int)))).2.2]) ∧ w'.ownsRow w.heap.size 9 1 v (wread X ((dnames S.now, (0 : Int)))).2.1.length ((wread X ((dnames S.now, (0 : Int)))).2.1.map strV) ∧
        WD w' q p (wread X ((dnames S.now, (0 : Int)))).1 S F ∧ Touch F w w' := by
  obtain ⟨FW, FD, hA, hF⟩ := h
  have HA := Lib.hid hA
  have HFF := Lib.hid hF
  have HK := Lib.hid (struck_any q _ X FW false w hA.wn hX)
  have HSM := Lib.hid hS
  clear hA hX hS
  by_cases he : (X.struck false).2.1 = 0
  · have hr : wread X ((dnames S.now, (0 : Int))) = ((X.struck false).1, ((dnames S.now, (0 : Int))).1, ((dnames S.now, (0 : Int))).2) := by unfold wread; rw [if_pos he]
    have HR := Lib.hid hr; clear hr
    rw [HR.out]
    have HE := Lib.hid he; clear he
    go_enter Tryz.func258, Tryz.ntmps258
    go_wp2_with (first
      | (go_at_call 64; refine HK.out.mono ?_; rintro e w1 ⟨rfl, hw1, ht1⟩; rw [HE.out]; have q0 : w1.cell? ⟨q, 0, none⟩ = some (.pointer (some ⟨p, 0, none⟩)) := head_cell hw1; have HW1 := Lib.hid hw1; have HT1 := Lib.hid ht1; have hsz1 := ht1.size; have HA1 : Hid (Apart w1 q p _ S FW FD) := Lib.hid (HA.out.wound hw1 ht1); clear hw1 ht1; obtain ⟨addr, hda⟩ := HA1.out.dr; have HDA := Lib.hid hda; clear hda)
      | (go_at_call 265; refine (list_any p S addr FD w1 HDA.out hn).mono ?_; rintro e w2 ⟨v, rfl, ho, hb⟩; have HO := Lib.hid ho; have HB := Lib.hid hb; clear ho hb))
    go_ret2
    exact ⟨v, rfl, ownsRow_base_a HO.out hsz1, read_steps HA.out HFF.out HW1.out HT1.out HB.out⟩
  · obtain ⟨z, hz⟩ : ∃ z, z = (X.struck false).2.1 := ⟨_, rfl⟩
    have hr : wread X ((dnames S.now, (0 : Int))) = ((X.struck false).1, [], z) := by unfold wread; rw [if_neg he, hz]
    have HR := Lib.hid hr; clear hr
    rw [HR.out]
    have HZ := Lib.hid hz
    have hne : (z != 0) = true := by rw [hz]; simpa using he
    clear he hz
    go_enter Tryz.func258, Tryz.ntmps258
    go_wp2_with (go_at_call 64; refine HK.out.mono ?_; rintro e w1 ⟨rfl, hw1, ht1⟩; rw [← HZ.out]; have HW1 := Lib.hid hw1; have HT1 := Lib.hid ht1; clear hw1 ht1)
    go_ret2
    exact ⟨_, rfl, World.ownsRow_nil _ _ _ _, wound_step0 HA.out HFF.out HW1.out HT1.out⟩
theorem wread_len {X : Wnd} {α : Type} {r : List α × Int} : ∀ x ∈ (wread X r).2.1, x ∈ r.1 := by
  intro x hx
  unfold wread at hx
  split at hx
  · exact hx
  · cases hx
def keysL (l : List (List UInt8)) (x : Int) : List (List UInt8) := if x = 0 then underK l else []
set_option maxRecDepth 100000 in
set_option maxHeartbeats 4000000 in
theorem bkeys_any (q p : Nat) (X : Wnd) (S : Drv) (F : Nat → Prop) (w : World) (hn : size S.now ≤ 2199023255552) (hnm : ∀ nm ∈ dnames S.now, nm.length ≤ 1024) (hdl : (dnames S.now).length ≤ 2199023255552) (hd : WD w q p X S F) (hF : ∀ k, F k → k < w.heap.size) (hX : X.Ok) (hS : S.Small) (Y : Wnd) (l : List (List UInt8)) (x : Int) (hy : wread X (dnames S.now, (0 : Int)) = (Y, l, x)) :
    Calls Tryz.prog 23 #[.iface 36 (.pointer (some ⟨q, 0, none⟩))] w fun e w' => ∃ v, e = .returned (.tuple #[v, .int .i64 x]) ∧ w'.ownsRow w.heap.size 9 1 v (keysL l x).length ((keysL l x).map strV) ∧ WD w' q p Y S F ∧ Touch F w w' := by
  have hl : ∀ nm ∈ l, nm.length ≤ 1024 := fun nm h => hnm nm (by
    have h1 := wread_len (X := X) (r := (dnames S.now, (0 : Int))) nm
    rw [hy] at h1
    exact h1 h)
  have hll : l.length ≤ 2199023255552 := by
    unfold wread at hy
    split at hy
    · have : l = dnames S.now := by simpa using (congrArg (fun t => t.2.1) hy).symm
      rw [this]; exact hdl
    · have : l = [] := by simpa using (congrArg (fun t => t.2.1) hy).symm
      rw [this]; exact Nat.zero_le _
  have hc := wlist_any q p X S F w hn hd hX hS
  rw [hy] at hc
  have HC := Lib.hid hc
  have HF := Lib.hid hF
  have HL := Lib.hid (And.intro hl hll)
  clear hn hnm hdl hd hF hX hS hy hl hll hc
  go_enter Tryz.func23, Tryz.ntmps23
  go_wp2_with fail
  refine HC.out.mono ?_
  rintro e w1 ⟨v, rfl, ho1, hd1, ht1⟩
  have HO1 := Lib.hid ho1
  have HD1 := Lib.hid hd1
  have HT1 := Lib.hid ht1
  obtain ⟨A, c, rfl, _⟩ := own_shape ho1
  clear ho1 hd1 ht1
  by_cases hx : x = 0
  · subst hx
    have HU := Lib.hid (under_any A l.length c l w1 (Reads.of_own HO1.out) HL.out.1 HL.out.2)
    have HK : Hid (keysL l 0 = underK l) := Lib.hid (if_pos rfl)
    go_wp2_with (go_at_call 76; refine HU.out.mono ?_; rintro e w2 ⟨v2, rfl, ho2, hb2⟩; have HO2 := Lib.hid ho2; have HB2 := Lib.hid hb2; clear ho2 hb2)
    go_ret2
    rw [HK.out]
    exact ⟨_, rfl, ownsRow_base_a HO2.out HT1.out.size, HD1.out.below HB2.out, HT1.out.trans (Touch.of_below HB2.out)⟩
  · have e0 : (x != 0) = true := by rw [bne_iff_ne]; exact hx
    have HK : Hid (keysL l x = []) := Lib.hid (if_neg hx)
    clear hx
    go_wp2_with fail
    go_ret2
    rw [HK.out]
    exact ⟨_, rfl, ⟨rfl, .inl ⟨rfl, rfl⟩⟩, HD1.out, HT1.out⟩
end Go.Proofs.YtcbebefdbdppdaaGreat
namespace Go.Proofs.YtcbebefdbdppdaaGreat
open Go.RowKit
def Lies (B : Nat) (W W' : World) : Prop := ∀ k, B ≤ k → k < B + 2 → W'.heap[k]? = W.heap[k]?
theorem Lies.refl (B : Nat) (W : World) : Lies B W W := fun _ _ _ => rfl
theorem Lies.trans {B : Nat} {a b c : World} (h : Lies B a b) (k : Lies B b c) : Lies B a c := fun i h1 h2 => (k i h1 h2).trans (h i h1 h2)
theorem Lies.touch {B : Nat} {G : Nat → Prop} {a b : World} (h : Touch G a b) (h1 : ¬ G B) (h2 : ¬ G (B + 1)) (hs : B + 2 ≤ a.heap.size) : Lies B a b := fun k hk1 hk2 => h.block k (by omega) (by
  rcases (show k = B ∨ k = B + 1 by omega) with rfl | rfl
  · exact h1
  · exact h2)
theorem Lies.below {B N : Nat} {a b : World} (h : Below N a b) (hs : B + 2 ≤ N) : Lies B a b := fun k _ hk2 => h.block k (by omega)
def Frees (B : Nat) (I : World → Prop) : Prop := ∀ (W : World) (l : Nat) (o o' : Obj), B ≤ l → l < B + 2 → W.heap[l]? = some o → o.isCells = false → I W → I (W.putObj l o')
variable {F : Fence} {n : Nat} {P : Program}
def leftPost (B : Nat) (J : World → Prop) (Ix : Code → World → Prop) (W : World) : Exit → Act → World → Prop
  | .normal, _, W' => Lies B W W' ∧ J W'
  | .ret, _, W' => Lies B W W' ∧ Ix .ret W'
  | .exit id, _, W' => Lies B W W' ∧ Ix (.exit id) W'
  | .goto t, _, W' => Lies B W W' ∧ Ix (.goto t) W'
  | .panic _, _, _ => False
  | .outgrown, _, _ => False
theorem rangeFunc_any {α : Type} {g : Operand} {ps : Array Tmp} {assign body : Code} {Q : Exit → Act → World → Prop} {a : Act} {w : World}
    (hro : F.round = none) (h1 : F.depth.isSome = true → 1 ≤ n) {gf : Nat} {lb : Array Value} (hg : a.eval g = .func (.func gf) #[] lb) (hFg : F.fn gf) (eg : ∀ args w, (callFunc gf args).run P w = .ok (.enter gf args) w)
    (encs : α → Array Value) (hps : ∀ x, (encs x).size = ps.size)
    (I : α → World → Prop) (J : α → World → Prop) (Ix : α → Code → World → Prop) (I0 : World → Prop) (E : World → Prop) (Ex : Code → World → Prop)
    (hseq : ∀ (l : Nat) (K : World → Prop) (Kx : Code → World → Prop), (∀ A B, Lies w.heap.size A B → K A → K B) → (∀ c A B, Lies w.heap.size A B → Kx c A → Kx c B) →
      (∀ x W1, I x W1 → K W1 → YieldAt F (n - 1 - 1) P l (encs x) W1 fun e W' => (e = .returned (.bool true) ∧ J x W' ∧ K W') ∨ (e = .returned (.bool false) ∧ ∃ c, Ix x c W' ∧ Kx c W')) →
      ∀ W, w.heap.size ≤ W.heap.size → I0 W → K W → CallsIn F (n - 1) P gf (#[.func (.yield l) #[] #[]] ++ lb) W fun e W' => (∃ v, e = .returned v) ∧ ((E W' ∧ K W') ∨ ∃ c, Ex c W' ∧ Kx c W'))
    (hJ : ∀ x, Frees w.heap.size (J x)) (hIx : ∀ x c, Frees w.heap.size (Ix x c)) (hE : Frees w.heap.size E) (hEx : ∀ c, Frees w.heap.size (Ex c))
    (h0 : ∀ o1 o2, I0 ((w.alloc o1).alloc o2)) (M : α → Act → World → Prop) (hM : ∀ x a', Frees w.heap.size (M x a'))
    (hassign : ∀ (l : Nat) (x : α) (W : World) (K : Act → World → Prop), I x W → w.heap.size ≤ W.heap.size → (∀ a' W', Lies w.heap.size W W' → M x a' W' → K a' W') →
      assign.wpIn (F.inRound l) (n - 1 - 1) P (Exit.then K (fun _ _ _ => False)) { tmps := (ps.zip (encs x)).foldl (fun t (p, v) => t.setIfInBounds p v) a.tmps, defers := [] } W)
    (hbody : ∀ (l : Nat) (x : α) (a' : Act) (W : World), M x a' W → w.heap.size ≤ W.heap.size → body.wpIn (F.inRound l) (n - 1 - 1) P (leftPost w.heap.size (J x) (Ix x) W) a' W)
    (hdone : ∀ (W : World), E W → W.heap[w.heap.size]? = some (.deferred (some [])) → Q .normal { a with defers := { target := .collected w.heap.size, args := #[] } :: a.defers } W)
    (hstop : ∀ (c : Code) (W : World), Ex c W → W.heap[w.heap.size]? = some (.deferred (some [])) → c.wpIn F n P Q { a with defers := { target := .collected w.heap.size, args := #[] } :: a.defers } W) :
    (Code.rangeFunc g ps assign body).wpIn F n P Q a w := by
  refine wpIn_rangeFunc ?_
  intro fn hfn
  rw [hro]
  obtain ⟨rec, hrec⟩ : ∃ rec : LoopState → Option Code → Loop, rec = fun st pe => { state := st, pending := pe, fn, tmps := a.tmps, params := ps, assign, body, defers := w.heap.size } := ⟨_, rfl⟩
  obtain ⟨W1, hW1⟩ : ∃ W1, (w.alloc (.deferred (some []))).alloc (.loop (rec .ready none)) = W1 := ⟨_, rfl⟩
  have hL1 : W1.heap[w.heap.size + 1]? = some (.loop (rec .ready none)) := by
    rw [← hW1]; have := World.alloc_heap_new (w.alloc (.deferred (some []))) (.loop (rec .ready none)); rwa [World.size_alloc] at this
  have hK1 : W1.heap[w.heap.size]? = some (.deferred (some [])) := by
    rw [← hW1]; exact (Below.heap_alloc _ _ _ (by simp)).trans (World.alloc_heap_new w _)
  have hI1 : I0 W1 := by rw [← hW1]; exact h0 _ _
  have hs1 : w.heap.size ≤ W1.heap.size := by rw [← hW1]; simp; omega
  refine ⟨w.heap.size + 1, [{ target := .collected w.heap.size, args := #[] }], W1, { target := .fn (.func gf) lb, args := #[.func (.yield (w.heap.size + 1)) #[] #[]] }, W1, gf,
    #[.func (.yield (w.heap.size + 1)) #[] #[]] ++ lb, W1, ?_, ?_, ?_, ?_, h1, ?_⟩
  · rw [← hW1, hrec]; exact run_enterLoop_outer _ _ _ _ _
  · simp only [resolve, hg]
    simp [go_sem]
  · intro f' hf'; simp [Target.leads] at hf'; subst hf'; exact hFg
  · simp [invoke, go_sem, eg]
  · have fin : ∀ (jump : Option Code) (W3 : World), W3.heap[w.heap.size + 1]? = some (.loop { rec .ready none with state := .busy }) → W3.heap[w.heap.size]? = some (.deferred (some [])) →
        (Instr.endRound (w.heap.size + 1) jump).run P W3 = .ok (.bool jump.isNone) (W3.putObj (w.heap.size + 1) (.loop (rec (if jump.isNone then .ready else .done) jump))) ∧
        (W3.putObj (w.heap.size + 1) (.loop (rec (if jump.isNone then .ready else .done) jump))).heap[w.heap.size + 1]? = some (.loop (rec (if jump.isNone then .ready else .done) jump)) ∧
        (W3.putObj (w.heap.size + 1) (.loop (rec (if jump.isNone then .ready else .done) jump))).heap[w.heap.size]? = some (.deferred (some [])) := fun jump W3 hl3 hk3 => by
      have := run_endRound (P := P) jump hl3
      rw [hrec] at this ⊢
      exact ⟨this, World.putObj_heap_same (Array.getElem?_eq_some_iff.1 hl3).1, (World.putObj_heap_other (by omega)).trans hk3⟩
    refine (hseq (w.heap.size + 1)
      (fun W => W.heap[w.heap.size + 1]? = some (.loop (rec .ready none)) ∧ W.heap[w.heap.size]? = some (.deferred (some [])))
      (fun c W => W.heap[w.heap.size + 1]? = some (.loop (rec .done (some c))) ∧ W.heap[w.heap.size]? = some (.deferred (some [])))
      (fun A B hl hs => ⟨(hl _ (by omega) (by omega)).trans hs.1, (hl _ (by omega) (by omega)).trans hs.2⟩)
      (fun c A B hl hs => ⟨(hl _ (by omega) (by omega)).trans hs.1, (hl _ (by omega) (by omega)).trans hs.2⟩)
      ?_ W1 hs1 hI1 ⟨hL1, hK1⟩).mono ?_
    · rintro x W hi ⟨hl, hk⟩
      have hlt : w.heap.size + 1 < W.heap.size := (Array.getElem?_eq_some_iff.1 hl).1
      have hy := run_yield (P := P) (args := encs x) hl (by rw [hrec]; exact hps x)
      rw [hrec] at hy
      refine ⟨fn, _, assign, body, hy, roundIn_of_wpIn hfn (hassign _ x W _ hi (by omega) ?_)⟩
      clear hy hi
      intro a' Wa hla hm
      replace hl := (hla _ (by omega) (by omega)).trans hl
      replace hk := (hla _ (Nat.le_refl _) (by omega)).trans hk
      replace hlt : w.heap.size + 1 < Wa.heap.size := (Array.getElem?_eq_some_iff.1 hl).1
      clear hla
      clear W
      obtain ⟨W, rfl⟩ : ∃ W, W = Wa := ⟨_, rfl⟩
      refine ⟨_, run_beginRound hl (by rw [hrec]), ?_⟩
      have hl2 : (W.putObj (w.heap.size + 1) (.loop { rec .ready none with state := .busy })).heap[w.heap.size + 1]? = some (.loop { rec .ready none with state := .busy }) := World.putObj_heap_same hlt
      have hk2 : (W.putObj (w.heap.size + 1) (.loop { rec .ready none with state := .busy })).heap[w.heap.size]? = some (.deferred (some [])) := (World.putObj_heap_other (by omega)).trans hk
      refine wpIn_mono (hbody _ x a' _ (hM x a' W _ _ _ (by omega) (by omega) hl rfl hm) (by rw [World.putObj_size]; omega)) ?_
      rintro e a3 W3 hp
      cases e with
      | normal =>
        obtain ⟨hk3, hi3⟩ := hp
        have hl3 := (hk3 _ (by omega) (by omega)).trans hl2
        obtain ⟨hr, hl4, hk4⟩ := fin none W3 hl3 ((hk3 _ (by omega) (by omega)).trans hk2)
        exact ⟨_, _, hr, .inl ⟨rfl, hJ x W3 _ _ _ (by omega) (by omega) hl3 rfl hi3, hl4, hk4⟩⟩
      | ret =>
        obtain ⟨hk3, hi3⟩ := hp
        have hl3 := (hk3 _ (by omega) (by omega)).trans hl2
        obtain ⟨hr, hl4, hk4⟩ := fin (some .ret) W3 hl3 ((hk3 _ (by omega) (by omega)).trans hk2)
        exact ⟨_, _, hr, .inr ⟨rfl, .ret, hIx _ _ W3 _ _ _ (by omega) (by omega) hl3 rfl hi3, hl4, hk4⟩⟩
      | exit id =>
        obtain ⟨hk3, hi3⟩ := hp
        have hl3 := (hk3 _ (by omega) (by omega)).trans hl2
        obtain ⟨hr, hl4, hk4⟩ := fin (some (.exit id)) W3 hl3 ((hk3 _ (by omega) (by omega)).trans hk2)
        exact ⟨_, _, hr, .inr ⟨rfl, .exit id, hIx _ _ W3 _ _ _ (by omega) (by omega) hl3 rfl hi3, hl4, hk4⟩⟩
      | goto t =>
        obtain ⟨hk3, hi3⟩ := hp
        have hl3 := (hk3 _ (by omega) (by omega)).trans hl2
        obtain ⟨hr, hl4, hk4⟩ := fin (some (.goto t)) W3 hl3 ((hk3 _ (by omega) (by omega)).trans hk2)
        exact ⟨_, _, hr, .inr ⟨rfl, .goto t, hIx _ _ W3 _ _ _ (by omega) (by omega) hl3 rfl hi3, hl4, hk4⟩⟩
      | panic ch => exact hp.elim
      | outgrown => exact hp.elim
    · rintro e W2 ⟨⟨v, rfl⟩, (⟨hi, hl, hk⟩ | ⟨c, hi, hl, hk⟩)⟩
      · exact ⟨none, _, by have := run_endLoop (P := P) hl (by rw [hrec]; simp); rw [hrec] at this; exact this, hdone _ (hE W2 _ _ _ (by omega) (by omega) hl rfl hi) ((World.putObj_heap_other (by omega)).trans hk)⟩
      · exact ⟨some c, _, by have := run_endLoop (P := P) hl (by rw [hrec]; simp); rw [hrec] at this; exact this, hstop c _ (hEx c W2 _ _ _ (by omega) (by omega) hl rfl hi) ((World.putObj_heap_other (by omega)).trans hk)⟩
end Go.Proofs.YtcbebefdbdppdaaGreat
