/- BayWalks: a drive that is only read, under a wound that refuses nothing: the layer's calls, each told by the drive alone.; Load: a drive that holds files, all of it safe.; A drive that was loaded keeps the pure invariant. No program walked. -/
import Derived.Test.YtcbebefdbdppdaaGreatM38
import Derived.Test.YtcbebefdbdppdaaGreatM11
import Derived.Maps.OwnSet
import Derived.Deep.DeepCutAuto
import Derived.Deep.RegionHeld3
namespace Go.Proofs.YtcbebefdbdppdaaGreat
open Go.RowKit Go.Maps
structure Rd (X0 : Wnd) (S : Drv) (n : Nat) : Prop where
  calm : Calm X0
  okn : X0.Okn 0
  inv : ∃ N, N ≤ 1073741824 ∧ S.Inv N
  small : S.Small
  num : (keysL (dnames S.now) 0).length ≤ n ∧ (dnames S.now).length ≤ n
  nn : n ≤ 1048576
section
variable {X0 : Wnd} {S : Drv} {n q p : Nat} {F : Nat → Prop}
theorem Rd.okt (h : Rd X0 S n) (t : Nat) (ht : t ≤ 1099511627776) : (struckN t X0).Ok := (struckN_okn h.okn t).ok (by omega)
theorem Rd.now (h : Rd X0 S n) : size S.now ≤ 2199023255552 := by
  have h1 := h.num.2
  rw [dnames_length] at h1
  have := h.nn
  omega
theorem Rd.names (h : Rd X0 S n) : ∀ nm ∈ dnames S.now, nm.length ≤ 1024 := fun nm hm => by
  obtain ⟨N, _, hI⟩ := h.inv
  exact (hI.fnow nm (mem_dnames hI.know hI.tnow hm)).1
theorem Rd.dlen (h : Rd X0 S n) : (dnames S.now).length ≤ 549755813888 := by have := h.num.2; have := h.nn; omega
theorem Rd.read (h : Rd X0 S n) (nm : Nm) : (S.read nm).1.length ≤ 1099511627776 := by
  obtain ⟨N, _, hI⟩ := h.inv
  exact read_le hI nm
def ToldR (V : World) (m : Nat) (S : Drv) (st : Hd) (ks : List (List UInt8)) (us : List (List UInt8 × Array Value)) : Prop :=
  ∀ (j : Nat) (p : List UInt8 × Array Value), us[j]? = some p → ks[j]? = some p.1 ∧ p.2.size = 19 ∧ LookAt V m (S.read (objN p.1)).1 (S.read (objN p.1)).2 { st with key := p.1 } (.agg p.2)
theorem ToldR.touch {V V' : World} {m : Nat} {st : Hd} {ks : List (List UInt8)} {us : List (List UInt8 × Array Value)} {G : Nat → Prop} (h : ToldR V m S st ks us) (ht : Touch G V V') (hG : ∀ k, G k → k < m) : ToldR V' m S st ks us := fun j p hj => by
  obtain ⟨h1, h2, h3⟩ := h j p hj
  exact ⟨h1, h2, h3.keepB fun k t cs hm hb _ => ht.block k hb.lt fun hg => by have := hG k hg; omega⟩
theorem ToldR.size {V : World} {m : Nat} {st : Hd} {ks : List (List UInt8)} {us : List (List UInt8 × Array Value)} (h : ToldR V m S st ks us) : ∀ p ∈ us, p.2.size = 19 := fun p hp => by
  obtain ⟨j, hj⟩ := List.getElem?_of_mem hp
  exact (h j p hj).2.1
theorem Rd.keys_ (h : Rd X0 S n) (t : Nat) (ht : t ≤ 1099511627776) (w : World) (hd : WD w q p (struckN t X0) S F) (hF : ∀ k, F k → k < w.heap.size) :
    Calls Tryz.prog 23 #[.iface 36 (.pointer (some ⟨q, 0, none⟩))] w fun e w' => ∃ v, e = .returned (.tuple #[v, .int .i64 0]) ∧ w'.ownsRow w.heap.size 9 1 v (keysL (dnames S.now) 0).length ((keysL (dnames S.now) 0).map strV) ∧ WD w' q p (struckN (t + 1) X0) S F ∧ Touch F w w' :=
  bkeys_any q p (struckN t X0) S F w h.now h.names (Nat.le_trans h.dlen (by decide)) hd hF (h.okt t ht) h.small (struckN (t + 1) X0) (dnames S.now) 0 (calm_reads h.calm t _)
theorem Rd.walked (h : Rd X0 S n) (t : Nat) (ht : t ≤ 549755813888) (w : World) (hd : WD w q p (struckN t X0) S F) (hF : ∀ k, F k → k < w.heap.size) (st : Hd) (hst : st.st.length = 8) (most limit : Int) :
    Calls Tryz.prog 24 #[.iface 36 (.pointer (some ⟨q, 0, none⟩)), hdV st, .int .i64 most, .int .i64 limit] w fun e w' => ∃ v us, e = .returned v ∧ w'.ownsRow w.heap.size 82 20 v us.length (flatP us) ∧ ToldR w' w.heap.size S st (keysL (dnames S.now) 0) us ∧
      us.length ≤ (keysL (dnames S.now) 0).length ∧ (∀ j : Nat, 0 < j → j < us.length → ¬stopB most limit j) ∧ (us.length = (keysL (dnames S.now) 0).length ∨ (0 < us.length ∧ stopB most limit us.length)) ∧ WD w' q p (struckN (t + 1 + us.length) X0) S F ∧ Touch F w w' := by
  refine (callsIn_wide.1 (walked_in 0 q p (struckN t X0) S F w st hst most limit t h.now h.names h.dlen h.read hd hF (by have h9 := struckN_okn h.okn t; rwa [Nat.zero_add] at h9) (by have := h.dlen; omega) h.small (struckN (t + 1) X0) (dnames S.now) 0 (calm_reads h.calm t _))).mono ?_
  rintro e w' ⟨v, us, rfl, ho, hto, hle, hns, hor, hw, htt⟩
  refine ⟨v, us, rfl, ho, fun j p hj => ?_, hle, hns, hor, by rw [struckN_add] at hw; exact hw, htt⟩
  obtain ⟨h1, h2, Z, ds, e, h3, h4⟩ := hto j p hj
  rw [struckN_add, calm_reads h.calm] at h3
  injection h3 with _ h3
  injection h3 with h5 h6
  subst h5 h6
  exact ⟨h1, h2, h4⟩
theorem Rd.look (h : Rd X0 S n) (t : Nat) (ht : t ≤ 1099511627776) (w : World) (hd : WD w q p (struckN t X0) S F) (hF : ∀ k, F k → k < w.heap.size) (st : Hd) (hst : st.st.length = 8) (h1 : 1 ≤ st.key.length) (h2 : st.key.length ≤ 255) :
    Calls Tryz.prog 20 #[.iface 36 (.pointer (some ⟨q, 0, none⟩)), hdV st] w fun e w' => ∃ v, e = .returned v ∧ LookAt w' w.heap.size (S.read (objN st.key)).1 (S.read (objN st.key)).2 st v ∧ WD w' q p (struckN (t + 1) X0) S F ∧ Touch F w w' :=
  blook_any q p (struckN t X0) S F st hst h1 h2 w hd hF (h.okt t ht) h.small (struckN (t + 1) X0) _ _ (calm_reads h.calm t _) (h.read _)
theorem Rd.glance (h : Rd X0 S n) (t : Nat) (ht : t ≤ 1099511627776) (w : World) (hd : WD w q p (struckN t X0) S F) (hF : ∀ k, F k → k < w.heap.size) (st : Hd) (hst : st.st.length = 8) (h1 : 1 ≤ st.key.length) (h2 : st.key.length ≤ 255) :
    Calls Tryz.prog 21 #[.iface 36 (.pointer (some ⟨q, 0, none⟩)), hdV st] w fun e w' => ∃ v, e = .returned v ∧ GlanceAt (S.read (objN st.key)).1 (S.read (objN st.key)).2 st v ∧ WD w' q p (struckN (t + 1) X0) S F ∧ Touch F w w' :=
  bglance_any q p (struckN t X0) S F st hst h1 h2 w hd hF (h.okt t ht) h.small (struckN (t + 1) X0) _ _ (calm_reads h.calm t _) (h.read _)
end
section
variable {F : Fence} {n : Nat} {P : Program}
theorem rangeFunc_any2 {α : Type} {g : Operand} {ps : Array Tmp} {assign body : Code} {Q : Exit → Act → World → Prop} {a : Act} {w : World}
    (hro : F.round = none) (h1 : F.depth.isSome = true → 1 ≤ n) {gf : Nat} {lb : Array Value} (hg : a.eval g = .func (.func gf) #[] lb) (hFg : F.fn gf) (eg : ∀ args w, (callFunc gf args).run P w = .ok (.enter gf args) w)
    (encs : α → Array Value) (hps : ∀ x, (encs x).size = ps.size)
    (I : α → World → Prop) (J : α → World → Prop) (Ix : α → Code → World → Prop) (I0 : World → Prop) (E : World → Prop) (Ex : Code → World → Prop)
    (hseq : ∀ (l : Nat) (K : World → Prop) (Kx : Code → World → Prop), (∀ A B, Lies w.heap.size A B → K A → K B) → (∀ c A B, Lies w.heap.size A B → Kx c A → Kx c B) →
      (∀ x W1, I x W1 → K W1 → YieldAt F (n - 1 - 1) P l (encs x) W1 fun e W' => (e = .returned (.bool true) ∧ J x W' ∧ K W') ∨ (e = .returned (.bool false) ∧ ∃ c, Ix x c W' ∧ Kx c W')) →
      ∀ W, w.heap.size ≤ W.heap.size → I0 W → K W → CallsIn F (n - 1) P gf (#[.func (.yield l) #[] #[]] ++ lb) W fun e W' => (∃ v, e = .returned v) ∧ ((E W' ∧ K W') ∨ ∃ c, Ex c W' ∧ Kx c W'))
    (hJ : ∀ x, Frees w.heap.size (J x)) (hIx : ∀ x c, Frees w.heap.size (Ix x c)) (hE : Frees w.heap.size E) (hEx : ∀ c, Frees w.heap.size (Ex c))
    (h0 : ∀ o1 o2, I0 ((w.alloc o1).alloc o2)) (A : α → Act) (M : α → World → Prop) (hM : ∀ x, Frees w.heap.size (M x))
    (hassign : ∀ (l : Nat) (x : α) (W : World) (K : Act → World → Prop), I x W → w.heap.size ≤ W.heap.size → (∀ W', Lies w.heap.size W W' → M x W' → K (A x) W') →
      assign.wpIn (F.inRound l) (n - 1 - 1) P (Exit.then K (fun _ _ _ => False)) { tmps := (ps.zip (encs x)).foldl (fun t (p, v) => t.setIfInBounds p v) a.tmps, defers := [] } W)
    (hbody : ∀ (l : Nat) (x : α) (W : World), M x W → w.heap.size ≤ W.heap.size → body.wpIn (F.inRound l) (n - 1 - 1) P (leftPost w.heap.size (J x) (Ix x) W) (A x) W)
    (hdone : ∀ (W : World), E W → W.heap[w.heap.size]? = some (.deferred (some [])) → Q .normal { a with defers := { target := .collected w.heap.size, args := #[] } :: a.defers } W)
    (hstop : ∀ (c : Code) (W : World), Ex c W → W.heap[w.heap.size]? = some (.deferred (some [])) → c.wpIn F n P Q { a with defers := { target := .collected w.heap.size, args := #[] } :: a.defers } W) :
    (Code.rangeFunc g ps assign body).wpIn F n P Q a w :=
  rangeFunc_any hro h1 hg hFg eg encs hps I J Ix I0 E Ex hseq hJ hIx hE hEx h0 (fun x a V => a = A x ∧ M x V) (fun x a' V r o o' h1 h2 h3 h4 h5 => ⟨h5.1, hM x V r o o' h1 h2 h3 h4 h5.2⟩)
    (fun l x W K hi hs hk => hassign l x W K hi hs fun W' hl hm => hk _ _ hl ⟨rfl, hm⟩) (fun l x a' W hm hs => by obtain ⟨rfl, hm⟩ := hm; exact hbody l x W hm hs) hdone hstop
end
end Go.Proofs.YtcbebefdbdppdaaGreat
namespace Go.Proofs.YtcbebefdbdppdaaGreat
open Go.RowKit Go.Maps Go.WideElems Go.WideMaps
namespace Drv
def loadStep (S : Drv) (f : File) : Drv := { S with bodies := S.bodies ++ [⟨f.2, f.2.length⟩], now := S.now.put (key f.1) (num S.bodies.length), kept := S.kept.put (key f.1) (num S.bodies.length), used := S.used + f.2.length }
def loadFits (S : Drv) (f : File) : Bool := named f.1 && !(has S.now (key f.1))
def loadK (S : Drv) (fs : List File) : Drv := fs.foldl loadStep S
def loads (S : Drv) : List File → Bool
  | [] => true
  | f :: r => S.loadFits f && (S.loadStep f).loads r
theorem loadK_snoc (S : Drv) (fs : List File) (f : File) : S.loadK (fs ++ [f]) = (S.loadK fs).loadStep f := by unfold loadK; rw [List.foldl_append]; rfl
theorem loads_at {S : Drv} {fs : List File} (h : S.loads fs = true) : ∀ {k : Nat} {f : File}, fs[k]? = some f → (S.loadK (fs.take k)).loadFits f = true := by
  induction fs generalizing S with
  | nil => intro k f hf; simp at hf
  | cons g r ih =>
    intro k f hf
    simp only [loads, Bool.and_eq_true] at h
    cases k with
    | zero => simp at hf; subst hf; exact h.1
    | succ k => exact ih h.2 (by simpa using hf)
structure LoadInv (S : Drv) (r k n : Nat) : Prop where
  same : S.kept = S.now
  len : S.bodies.length = k
  tidy : Tidy S.now
  sz : size S.now ≤ k
  used : 0 ≤ S.used ∧ S.used ≤ n
  room : S.room = r
theorem LoadInv.step {S : Drv} {r k n : Nat} (h : LoadInv S r k n) (f : File) : LoadInv (S.loadStep f) r (k + 1) (n + f.2.length) where
  same := by show S.kept.put _ _ = S.now.put _ _; rw [h.same]
  len := by show (S.bodies ++ [_]).length = _; rw [List.length_append, h.len]; rfl
  tidy := h.tidy.put (isKey _) _
  sz := by have h1 : size (S.now.put (key f.1) (num S.bodies.length)) ≤ size S.now + 1 := size_put_le h.tidy f.1 (num S.bodies.length); have h2 := h.sz; show size (S.now.put _ _) ≤ _; omega
  used := by have := h.used; show 0 ≤ S.used + _ ∧ S.used + _ ≤ ((n + f.2.length : Nat) : Int); omega
  room := h.room
def total (fs : List File) : Nat := (fs.map fun f => f.2.length).sum
theorem total_snoc (fs : List File) (f : File) : total (fs ++ [f]) = total fs + f.2.length := by unfold total; simp
theorem total_take (fs : List File) (k : Nat) : total (fs.take k) ≤ total fs := by
  unfold total
  rw [List.map_take]
  have e := congrArg List.sum (List.take_append_drop k (fs.map fun f : File => f.2.length))
  rw [List.sum_append] at e; omega
theorem total_get (fs : List File) {k : Nat} {f : File} (h : fs[k]? = some f) : f.2.length ≤ total fs := by
  have hk : fs.take (k + 1) = fs.take k ++ [f] := by rw [List.take_add_one, h]; rfl
  have := total_take fs (k + 1)
  rw [hk, total_snoc] at this; omega
theorem loadInv (r : Nat) (fs : List File) (k : Nat) (hk : k ≤ fs.length) : LoadInv ((Drv.new r).loadK (fs.take k)) r k (total (fs.take k)) := by
  induction k with
  | zero => exact ⟨rfl, rfl, tidy_empty, Nat.le_refl _, ⟨Int.le_refl _, Int.le_refl _⟩, rfl⟩
  | succ k ih =>
    obtain ⟨f, hf⟩ : ∃ f, fs[k]? = some f := ⟨_, List.getElem?_eq_getElem (by omega)⟩
    have h := (ih (by omega)).step f
    have hs : fs.take (k + 1) = fs.take k ++ [f] := by rw [List.take_add_one, hf]; rfl
    rw [hs, loadK_snoc, total_snoc]
    exact h
end Drv
theorem DirAt.lookOk {w : World} {addr : List Nat} {b : Nat} {D : Dir} (h : DirAt w addr b D) (s : ByteArray) (hs : s.size ≤ maxLen) (hno : has D (key s.data.toList) = false) :
    (Instr.lookup 135 (.map (some b)) (.string s) true).run Tryz.prog w = .ok (.tuple #[.pointer none, .bool false]) w := by
  obtain ⟨v, ps, hrun, hv⟩ := World.ownsMap.look_ok h dirKeyed Tryz.underlying135 (nilBody w) (zd := .nil) (zp := []) rfl (keyOf_string_mk Tryz.underlying9 hs)
  have hk : (Lit.string s.data.toList) = key s.data.toList := rfl
  have hat : D.atKey (key s.data.toList) .nil = .nil := atKey_of_not_has hno .nil
  have hat' : D.atKey (.string s.data.toList) .nil = .nil := hat
  have hno' : has D (.string s.data.toList) = false := hno
  rw [hrun, (elemR_inv hv).1, hat', hno']; rfl
theorem loads_take {S : Drv} : ∀ {fs : List File} {k : Nat}, S.loads fs = true → S.loads (fs.take k) = true
  | [], k, _ => by simp [Drv.loads]
  | f :: r, 0, _ => rfl
  | f :: r, k + 1, h => by
    simp only [Drv.loads, Bool.and_eq_true] at h
    show (S.loadFits f && (S.loadStep f).loads (r.take k)) = true
    rw [h.1, loads_take h.2]; rfl
theorem loads_snoc : ∀ {S : Drv} {fs : List File} {f : File}, S.loads (fs ++ [f]) = (S.loads fs && (S.loadK fs).loadFits f)
  | S, [], f => by simp [Drv.loads, Drv.loadK]
  | S, g :: r, f => by
    show (S.loadFits g && (S.loadStep g).loads (r ++ [f])) = (S.loadFits g && (S.loadStep g).loads r && ((S.loadStep g).loadK r).loadFits f)
    rw [loads_snoc, Bool.and_assoc]
theorem loads_stop {S : Drv} {fs : List File} {k : Nat} {f : File} (hf : fs[k]? = some f) (h : (S.loadK (fs.take k)).loadFits f = false) : S.loads fs = false := by
  have hk : fs.take (k + 1) = fs.take k ++ [f] := by rw [List.take_add_one, hf]; rfl
  cases hl : S.loads fs with
  | false => rfl
  | true =>
    have := loads_take (k := k + 1) hl
    rw [hk, loads_snoc, h, Bool.and_false] at this
    cases this
structure FilesIn (w : World) (A : Option Addr) (fs : List File) (vals : List Value) : Prop where
  len : vals.length = fs.length
  row : Reads w w.heap.size 2 A fs.length (fileCells fs vals)
  data : ∀ (k : Nat) (f : File) (u : Value), fs[k]? = some f → vals[k]? = some u → ∃ a c, u = .slice a f.2.length c ∧ Reads w w.heap.size 1 a f.2.length (f.2.map B8)
theorem FilesIn.keep {w w' : World} {A : Option Addr} {fs : List File} {vals : List Value} (h : FilesIn w A fs vals) (hb : Below w.heap.size w w') : FilesIn w' A fs vals :=
  ⟨h.len, (h.row.below hb).more hb.size, fun k f u hf hu => by
    obtain ⟨a, c, e, hr⟩ := h.data k f u hf hu
    exact ⟨a, c, e, (hr.below hb).more hb.size⟩⟩
theorem fileCells_get (fs : List File) (vals : List Value) {k : Nat} {f : File} {u : Value} (hf : fs[k]? = some f) (hu : vals[k]? = some u) : (fileCells fs vals)[k * 2]? = some (strV f.1) ∧ (fileCells fs vals)[k * 2 + 1]? = some u := by
  induction fs generalizing vals k with
  | nil => simp at hf
  | cons g r ih =>
    cases vals with
    | nil => simp at hu
    | cons v vs =>
      cases k with
      | zero => simp at hf hu; subst hf hu; exact ⟨rfl, rfl⟩
      | succ k =>
        have := ih vs (k := k) (by simpa using hf) (by simpa using hu)
        rw [show (k + 1) * 2 = k * 2 + 2 by omega]
        exact this
set_option maxRecDepth 100000 in
set_option maxHeartbeats 8000000 in
theorem load_any (r : Nat) (hr2 : r ≤ 1073741824) (fs : List File) (vals : List Value) (A : Option Addr) (c : Nat) (w : World) (hin : FilesIn w A fs vals) (hsp : ∀ ad, A = some ad → 0 < fs.length → ad.spot = none) (hfs : fs.length ≤ 1099511627776) (htot : Drv.total fs ≤ 140737488351232) (hnl : ∀ f ∈ fs, f.1.length ≤ 1099511627776) :
    Calls Tryz.prog 29 #[.int .i64 (r : Int), .slice A fs.length c] w fun e w' => ((Drv.new r).loads fs = true → ∃ p, e = .returned (.pointer (some ⟨p, 0, none⟩)) ∧ Dr w' p ((Drv.new r).loadK fs) (fun k => w.heap.size ≤ k ∧ k < w'.heap.size)) ∧ ((Drv.new r).loads fs = false → e = .returned (.pointer none)) ∧ Below w.heap.size w w' := by
  have HIN := Lib.hid hin
  have HNL := Lib.hid hnl
  have HINV := Lib.hid (fun k hk => Drv.loadInv r fs k hk)
  have HSP := Lib.hid hsp
  have HTOT := Lib.hid (fun (k : Nat) => Nat.le_trans (Drv.total_take fs k) htot)
  have HTOG := Lib.hid (fun (k : Nat) (f : File) (h : fs[k]? = some f) => Nat.le_trans (Drv.total_get fs h) htot)
  obtain ⟨m, hm⟩ : ∃ m, m = fs.length := ⟨_, rfl⟩
  obtain ⟨S0, hS0⟩ : ∃ S0, S0 = Drv.new r := ⟨_, rfl⟩
  have HM := Lib.hid hm
  have HS0 := Lib.hid hS0
  rw [← hm] at hfs ⊢
  rw [← hS0] at HINV ⊢
  clear hin hsp htot hnl hm hS0
  go_enter Tryz.func29, Tryz.ntmps29
  go_wp2_with fail
  refine (new_good r w (by omega) (by omega)).mono ?_
  rintro e w3 ⟨rfl, hw3⟩
  obtain ⟨Ln, hLa, hDn, hFn⟩ := dr_new w r
  rw [← hw3] at hDn
  obtain ⟨pn, hpn⟩ : ∃ pn, pn = w.heap.size + 2 := ⟨_, rfl⟩
  have HDN : Hid (DrvAt w3 pn (S0.loadK (fs.take 0)) Ln) := Lib.hid (by rw [hpn, HS0.out]; exact hDn)
  have HFN : Hid (∀ j, Ln.foot pn j → w.heap.size ≤ j) := Lib.hid (by rw [hpn]; exact hFn)
  have HB3 : Hid (Below w.heap.size w w3) := Lib.hid (by rw [hw3]; exact (((Below.refl _ _).alloc (Nat.le_refl _) _).alloc (by simp) _).alloc (by simp; omega) _)
  have hpnq : w.heap.size ≤ pn := by omega
  rw [← hpn]
  clear hw3 hDn hFn hLa hpn
  go_wp2_with fail
  go_loopw [7, 8, 9, 10, 17] (fun _ _ _ _ s17 wr => ∃ k : Nat, k ≤ m ∧ s17 = .int .i64 k ∧ (∃ Lk, DrvAt wr pn (S0.loadK (fs.take k)) Lk ∧ (∀ j, Lk.foot pn j → w.heap.size ≤ j)) ∧ Below w.heap.size w wr ∧ Hid (S0.loads (fs.take k) = true)) (fun _ _ _ _ s _ => m - (intOf s).toNat)
  case atStart => exact ⟨0, Nat.zero_le _, rfl, ⟨Ln, HDN.out, HFN.out⟩, HB3.out, Lib.hid rfl⟩
  case round =>
    obtain ⟨k, hk, rfl, ⟨Lk, hdk, hfk⟩, hbk, HLS⟩ := hrel
    have HDK := Lib.hid hdk
    have HFK := Lib.hid hfk
    have HBK := Lib.hid hbk
    have hszk := hbk.size
    have hpnl := hdk.head.lt
    clear hdk hfk hbk
    by_cases hltm : k < m
    · obtain ⟨f, hf⟩ : ∃ f, fs[k]? = some f := ⟨_, List.getElem?_eq_getElem (by rw [← HM.out]; exact hltm)⟩
      obtain ⟨u, hu⟩ : ∃ u, vals[k]? = some u := ⟨_, List.getElem?_eq_getElem (by rw [HIN.out.len, ← HM.out]; exact hltm)⟩
      obtain ⟨a, cf, rfl, hdat⟩ := HIN.out.data k f u hf hu
      obtain ⟨nm, bs⟩ := f
      obtain ⟨n, hn⟩ : ∃ n, n = bs.length := ⟨_, rfl⟩
      have hdat' : Reads w w.heap.size 1 a n (bs.map B8) := by rw [hn]; exact hdat
      have hu' : vals[k]? = some (.slice a n cf) := by rw [hn]; exact hu
      have hinv := HINV.out k (by rw [← HM.out]; omega)
      have hnml : nm.length ≤ 1099511627776 := HNL.out _ (List.mem_of_getElem? hf)
      have hnb : n ≤ 140737488351232 := by rw [hn]; exact HTOG.out k _ hf
      obtain ⟨ad, hA, hbl, hcl⟩ := HIN.out.row.2 (by rw [← HM.out]; omega)
      obtain ⟨gA, oA, sA⟩ := ad
      have hsA : sA = none := HSP.out _ hA (by rw [← HM.out]; omega)
      subst hsA
      subst hA
      have hg2 := fileCells_get fs vals hf hu'
      have x0 : wr.cell? ⟨gA, oA + k * 2, none⟩ = some (.string ⟨nm.toArray⟩) := by
        have h := hcl _ _ hg2.1
        rw [add_plain] at h
        exact (World.cell?_of_block (HBK.out.block gA hbl)).trans h
      have x1 : wr.cell? ⟨gA, oA + k * 2 + 1, none⟩ = some (.slice a n cf) := by
        have h := hcl _ _ hg2.2
        rw [add_plain] at h
        exact (World.cell?_of_block (HBK.out.block gA hbl)).trans h
      by_cases hfit : (S0.loadK (fs.take k)).loadFits (nm, bs) = true
      rotate_left
      · have hstop : S0.loads fs = false := loads_stop hf (by simpa using hfit)
        have HSTOP := Lib.hid hstop
        have HNMV : Hid (∀ V, Calls Tryz.prog 66 #[.string ⟨nm.toArray⟩] V fun e w' => e = .returned (.bool (named nm)) ∧ V = w') := Lib.hid fun V => by
          have h := named_any ⟨nm.toArray⟩ V (by show nm.toArray.size ≤ maxLen; simp [maxLen]; omega)
          rw [show (⟨nm.toArray⟩ : ByteArray).data.toList = nm by simp] at h
          exact h
        have hcase : (has (S0.loadK (fs.take k)).now (key nm) = true) ∨ (has (S0.loadK (fs.take k)).now (key nm) = false ∧ named nm = false) := by
          unfold Drv.loadFits at hfit
          cases hh : has (S0.loadK (fs.take k)).now (key nm) with
          | true => exact .inl rfl
          | false =>
            refine .inr ⟨rfl, ?_⟩
            cases hn2 : named nm with
            | false => rfl
            | true => exact absurd (show (named nm && !(has (S0.loadK (fs.take k)).now (key nm))) = true by rw [hn2, hh]; rfl) hfit
        have HCS := Lib.hid hcase
        clear hf hu hu' hdat hdat' hn hinv hbl hcl hg2 hfit hstop hcase
        go_wp2_with fail
        refine wp_world fun W hW => ?_
        obtain ⟨gf, hgf⟩ : ∃ g, g = wr.heap.size := ⟨_, rfl⟩
        rw [← hgf]
        have HFB : Hid (Blk W gf 171 #[.string ⟨nm.toArray⟩, .slice a n cf]) := Lib.hid (by rw [hW, hgf]; exact Blk.new _ _ _)
        have HBW : Hid (Below wr.heap.size wr W) := Lib.hid (by rw [hW]; exact (Below.refl _ _).alloc (Nat.le_refl _) _)
        have HDW := Lib.hid (HDK.out.keep fun j hj => HBW.out.block j (HDK.out.foot_lt hj))
        have hDW := HDW.out
        have hBWF : Below w.heap.size w W := HBK.out.trans (HBW.out.mono hszk)
        have HBWF := Lib.hid hBWF
        have y2 : W.cell? ⟨pn, 2, none⟩ = some (.map (some Lk.nowM)) := hDW.head.cell 2
        have z0 : W.cell? ⟨gf, 0, none⟩ = some (.string ⟨nm.toArray⟩) := HFB.out.cell 0
        have z1 : W.cell? ⟨gf, 1, none⟩ = some (.slice a n cf) := HFB.out.cell 1
        have hgW : gf < W.heap.size := HFB.out.lt
        have hpnW : pn < W.heap.size := hDW.head.lt
        rcases HCS.out with hh | ⟨hh, hnn⟩
        · have hl0 : ∃ v, ∀ q : Nat, (Instr.lookup 135 (.map (some Lk.nowM)) (.string ⟨nm.toArray⟩) true).run Tryz.prog (W.drewN q) = .ok (.tuple #[v, .bool true]) (W.drewN q) := by
            refine ⟨ptrO Lk.addr (dget (S0.loadK (fs.take k)).now nm), fun q => ?_⟩
            obtain ⟨v, ps, hrun, hv⟩ := World.ownsMap.look_ok (hDW.now.keep (w' := W.drewN q) rfl) dirKeyed Tryz.underlying135 (nilBody _) (zd := .nil) (zp := []) rfl (keyOf_string_mk Tryz.underlying9 (s := ⟨nm.toArray⟩) (by show nm.toArray.size ≤ maxLen; simp [maxLen]; omega))
            have h2 : has (S0.loadK (fs.take k)).now (.string nm) = true := hh
            rw [hrun, (elemR_inv hv).1]
            simp only [h2]
            rfl
          obtain ⟨vv, hl⟩ := hl0
          clear hW hgf x0 x1 hDW hh hBWF
          go_quiet (fail)
          go_wp2
          go_ret
          exact ⟨fun h => (by rw [HSTOP.out] at h; cases h), fun _ => rfl, below_drewN HBWF.out _⟩
        · rw [hnn] at HNMV
          have hl := fun q : Nat => (hDW.now.keep (w' := W.drewN q) rfl).lookOk ⟨nm.toArray⟩ (by show nm.toArray.size ≤ maxLen; simp [maxLen]; omega) (by rw [show (⟨nm.toArray⟩ : ByteArray).data.toList = nm by simp]; exact hh)
          clear hW hgf x0 x1 hDW hh hBWF hnn
          go_quiet (fail)
          refine exit_world fun X hX => ?_
          have z0 : X.cell? ⟨gf, 0, none⟩ = some (.string ⟨nm.toArray⟩) := by rw [hX]; exact z0
          have HBX : Hid (Below w.heap.size w X) := Lib.hid (by rw [hX]; exact below_drewN HBWF.out _)
          clear hX hl y2
          go_wp2_with (go_at_call 66; refine (HNMV.out _).mono ?_; rintro e w' ⟨rfl, rfl⟩)
          go_ret
          exact ⟨fun h => (by rw [HSTOP.out] at h; cases h), fun _ => rfl, HBX.out⟩
      have HLSN : Hid (S0.loads (fs.take (k + 1)) = true) := Lib.hid (by rw [show fs.take (k + 1) = fs.take k ++ [(nm, bs)] by rw [List.take_add_one, hf]; rfl, loads_snoc, HLS.out, hfit]; rfl)
      simp only [Drv.loadFits, Bool.and_eq_true, Bool.not_eq_true'] at hfit
      obtain ⟨hnamed, hhas⟩ := hfit
      have hnmb : nm.length ≤ 1024 := by have := of_decide_eq_true (show decide (1 ≤ nm.length ∧ nm.length ≤ 1024) = true from hnamed); omega
      have HNM := Lib.hid hnamed
      have HHAS := Lib.hid hhas
      have HINVK := Lib.hid hinv
      have HN := Lib.hid hn
      have HF := Lib.hid hf
      have HDT : Hid (Reads wr wr.heap.size 1 a n (bs.map B8)) := Lib.hid ((hdat'.below HBK.out).more HBK.out.size)
      clear hf hu hu' hdat hdat' hn hnamed hhas hinv hbl hcl hg2
      go_wp2_with fail
      refine wp_world fun W hW => ?_
      obtain ⟨gf, hgf⟩ : ∃ g, g = wr.heap.size := ⟨_, rfl⟩
      rw [← hgf]
      have HFB : Hid (Blk W gf 171 #[.string ⟨nm.toArray⟩, .slice a n cf]) := Lib.hid (by rw [hW, hgf]; exact Blk.new _ _ _)
      have HBW : Hid (Below wr.heap.size wr W) := Lib.hid (by rw [hW]; exact (Below.refl _ _).alloc (Nat.le_refl _) _)
      have hgW : gf < W.heap.size := HFB.out.lt
      have hgfw : wr.heap.size ≤ gf := by omega
      have HDW := Lib.hid (HDK.out.keep fun j hj => HBW.out.block j (HDK.out.foot_lt hj))
      have hDW := HDW.out
      have y2 : W.cell? ⟨pn, 2, none⟩ = some (.map (some Lk.nowM)) := hDW.head.cell 2
      have z0 : W.cell? ⟨gf, 0, none⟩ = some (.string ⟨nm.toArray⟩) := HFB.out.cell 0
      have z1 : W.cell? ⟨gf, 1, none⟩ = some (.slice a n cf) := HFB.out.cell 1
      have hl := fun q : Nat => (hDW.now.keep (w' := W.drewN q) rfl).lookOk ⟨nm.toArray⟩ (by show nm.toArray.size ≤ maxLen; simp [maxLen]; omega) (by rw [show (⟨nm.toArray⟩ : ByteArray).data.toList = nm by simp]; exact HHAS.out)
      have hpnW : pn < W.heap.size := hDW.head.lt
      clear hW hgf x0 x1 hDW
      go_quiet (fail)
      refine exit_world fun X hX => ?_
      have hbX : Below W.heap.size W X := by rw [hX]; exact below_drewN (Below.refl _ _) nq
      have HXW := Lib.hid hbX
      have hXs : X.heap.size = W.heap.size := by rw [hX]; rfl
      have z0 : X.cell? ⟨gf, 0, none⟩ = some (.string ⟨nm.toArray⟩) := by rw [hX]; exact z0
      have z1 : X.cell? ⟨gf, 1, none⟩ = some (.slice a n cf) := by rw [hX]; exact z1
      have HX : Hid (Below wr.heap.size wr X) := Lib.hid (HBW.out.trans (hbX.mono HBW.out.size))
      have HFX := Lib.hid (HFB.out.below hbX HFB.out.lt)
      have HNMD : Hid (∀ V, Calls Tryz.prog 66 #[.string ⟨nm.toArray⟩] V fun e w' => e = .returned (.bool true) ∧ V = w') := Lib.hid fun V => by
        have h := named_any ⟨nm.toArray⟩ V (by show nm.toArray.size ≤ maxLen; simp [maxLen]; omega)
        rw [show (⟨nm.toArray⟩ : ByteArray).data.toList = nm by simp, HNM.out] at h
        exact h
      clear hX hl hbX y2
      go_upto_region 10 with (go_at_call 66; refine (HNMD.out _).mono ?_; rintro e w' ⟨rfl, rfl⟩)
      go_cut [10] (fun s10 wx => ∃ (g : Nat) (a5 : Option Addr) (c5 : Nat), s10 = .pointer (some ⟨g, 0, none⟩) ∧ X.heap.size ≤ g ∧ Blk wx g 151 #[.slice a5 n c5, .int .i64 n] ∧ wx.ownsRow X.heap.size 5 1 (.slice a5 n c5) n (bs.map B8) ∧ Below X.heap.size X wx)
      case first =>
        have HCL := Lib.hid (fun V (hV : Below X.heap.size X V) => clone_any a n cf bs V wr.heap.size (HDT.out.below (HX.out.trans (hV.mono HX.out.size))) (by omega))
        have hgX : gf < X.heap.size := HFX.out.lt
        have hd0 : Below X.heap.size X X.drew := below_drewN (Below.refl _ X) 1
        have HD0 := Lib.hid hd0
        have s1 : X.drew.cell? ⟨gf, 1, none⟩ = some (.slice a n cf) := z1
        clear hd0
        go_region_held3 (fun w' => w'.cell? ⟨gf, 1, none⟩ = some (.slice a n cf)) (first | exact s1 | exact z1 | exact q1 | exact q2 _) ((go_at_call 79; refine (HCL.out _ HD0.out).mono ?_; rintro e V ⟨v5, rfl, ho, hb⟩; obtain ⟨a5, c5, hv5, _⟩ := own_shape ho; subst hv5; have HOV := Lib.hid ho; have HV : Hid (Below X.heap.size X V) := Lib.hid (HD0.out.trans hb); have q1 : V.cell? ⟨gf, 1, none⟩ = some (.slice a n cf) := hb.cell (p := ⟨gf, 1, none⟩) hgX |>.trans s1; have q2 : ∀ o, (V.alloc o).cell? ⟨gf, 1, none⟩ = some (.slice a n cf) := fun o => (World.cell?_alloc_lt V o ⟨gf, 1, none⟩ (Nat.lt_of_lt_of_le hgX HV.out.size)).trans q1; clear ho hb))
        all_goals
          go_wp2_with fail
          go_meet
          exact ⟨_, _, _, rfl, HV.out.size, blk_last _ _ _ _ rfl, HOV.out.alloc _, HV.out.alloc HV.out.size _⟩
      case rest =>
        obtain ⟨W6, rfl⟩ : ∃ x, x = wc := ⟨_, rfl⟩
        obtain ⟨g, a5, c5, rfl, hgX, hblk, hrow, hB6⟩ := hcut
        have hrow' : W6.ownsRow X.heap.size 5 1 (.slice a5 n c5) bs.length (bs.map B8) := by rw [← HN.out]; exact hrow
        have HROW := Lib.hid hrow
        have HXD := Lib.hid (HDW.out.keep fun j hj => HXW.out.block j (HDW.out.foot_lt hj))
        have hszc : size (S0.loadK (fs.take k)).now ≤ k := HINVK.out.sz
        have hgf6 : gf < X.heap.size := HFX.out.lt
        have HF6 := Lib.hid (HFX.out.below hB6 hgf6)
        clear z0 z1 hrow
        go_wp2_with fail
        have hA := HXD.out.addBodyV hB6 hgX hblk hrow'
        have HA := Lib.hid hA
        have hkb : (S0.loadK (fs.take k)).bodies.length = k := HINVK.out.len
        have hla : Lk.addr.length = k := by rw [HXD.out.la, hkb]
        have m2 : W6.cell? ⟨pn, 2, none⟩ = some (.map (some Lk.nowM)) := hA.head.cell 2
        have m3 : W6.cell? ⟨pn, 3, none⟩ = some (.map (some Lk.keptM)) := hA.head.cell 3
        have hpt : ptrO (Lk.addr ++ [g]) (some k) = .pointer (some ⟨g, 0, none⟩) := by
          show Value.pointer (some ⟨adrOf (Lk.addr ++ [g]) k, 0, none⟩) = _
          rw [show adrOf (Lk.addr ++ [g]) k = g by rw [← hla]; exact getD_snoc_eq]
        have hsn : (⟨nm.toArray⟩ : ByteArray).data.toList = nm := by simp
        obtain ⟨O1, O2, s1, e1, e2, e3⟩ := hA.now.entry (by show size ((S0.loadK (fs.take k)).now) < maxLen; unfold maxLen; omega) ⟨nm.toArray⟩ (by rw [hsn]; exact HHAS.out) hA.nodup (by show nm.toArray.size ≤ maxLen; simp [maxLen]; omega) k (by simp [hla])
        obtain ⟨O3, O4, s2, e4, e5, e6⟩ := hA.kept.entry (by show size (S0.loadK (fs.take k)).kept < maxLen; rw [HINVK.out.same]; unfold maxLen; omega) ⟨nm.toArray⟩ (by rw [hsn]; show has (S0.loadK (fs.take k)).kept _ = false; rw [HINVK.out.same]; exact HHAS.out) hA.nodup (by show nm.toArray.size ≤ maxLen; simp [maxLen]; omega) k (by simp [hla])
        rw [hpt] at e2 e5
        rw [hsn] at e3 e6
        have E1 := Lib.hid e1
        have E2 := Lib.hid e2
        have E3 := Lib.hid e3
        have E4 := Lib.hid e4
        have E5 := Lib.hid e5
        have E6 := Lib.hid e6
        have HPT := Lib.hid hpt
        clear e1 e2 e3 e4 e5 e6 hA hla hpt hsn hrow'
        have hne := HA.out.ne
        have hnl2 : Lk.nowM < W6.heap.size := HA.out.now.lt
        have hkl2 : Lk.keptM < W6.heap.size := HA.out.kept.lt
        have hn1 : pn ≠ Lk.nowM := dir_blk_ne HA.out.now HA.out.head
        have hn2 : pn ≠ Lk.keptM := dir_blk_ne HA.out.kept HA.out.head
        obtain ⟨V1, hV1⟩ : ∃ V, V = ChangeMaps.setBlock W6.drew Lk.nowM O1 := ⟨_, rfl⟩
        obtain ⟨V2, hV2⟩ : ∃ V, V = ChangeMaps.setBlock V1 Lk.nowM O2 := ⟨_, rfl⟩
        obtain ⟨V3, hV3⟩ : ∃ V, V = ChangeMaps.setBlock V2 Lk.keptM O3 := ⟨_, rfl⟩
        obtain ⟨V4, hV4⟩ : ∃ V, V = ChangeMaps.setBlock V3 Lk.keptM O4 := ⟨_, rfl⟩
        have l1 : V1.heap.size = W6.heap.size := by rw [hV1, setBlock_size]; rfl
        have l2 : V2.heap.size = W6.heap.size := by rw [hV2, setBlock_size, l1]
        have l3 : V3.heap.size = W6.heap.size := by rw [hV3, setBlock_size, l2]
        have f1 : (Instr.mapEntry 135 (.map (some Lk.nowM)) (.string ⟨nm.toArray⟩)).run Tryz.prog W6.drew = .ok (.tuple #[.pointer none, .int .i64 s1]) V1 := by rw [hV1]; exact E1.out _ rfl
        have f2 : (Instr.entryStore 135 (.map (some Lk.nowM)) (.int .i64 s1) (.pointer (some ⟨g, 0, none⟩))).run Tryz.prog V1 = .ok () V2 := by rw [hV2]; exact E2.out _ (by rw [hV1]; exact setBlock_same _ _ hnl2)
        have f3 : (Instr.mapEntry 135 (.map (some Lk.keptM)) (.string ⟨nm.toArray⟩)).run Tryz.prog V2 = .ok (.tuple #[.pointer none, .int .i64 s2]) V3 := by
          rw [hV3]; exact E4.out _ (by rw [hV2, setBlock_other _ _ (Ne.symm hne), hV1, setBlock_other _ _ (Ne.symm hne)]; rfl)
        have f4 : (Instr.entryStore 135 (.map (some Lk.keptM)) (.int .i64 s2) (.pointer (some ⟨g, 0, none⟩))).run Tryz.prog V3 = .ok () V4 := by rw [hV4]; exact E5.out _ (by rw [hV3]; exact setBlock_same _ _ (by rw [l2]; exact hkl2))
        have hT2 : Touch (· = Lk.nowM) W6 V2 := by
          have h1 : Touch (· = Lk.nowM) W6 V1 := by rw [hV1]; exact (Touch.drewN (F := (· = Lk.nowM)) W6 1).trans ((setBlock_touch W6.drew Lk.nowM O1).mono fun k _ hk => .inl hk)
          refine h1.trans ?_
          rw [hV2]; exact (setBlock_touch _ _ _).mono fun k _ hk => .inl hk
        have hT4 : Touch (· = Lk.keptM) V2 V4 := by
          have h1 : Touch (· = Lk.keptM) V2 V3 := by rw [hV3]; exact setBlock_touch _ _ _
          refine h1.trans ?_
          rw [hV4]; exact (setBlock_touch _ _ _).mono fun k _ hk => .inl hk
        have hD2 := HA.out.setNow (E3.out V2 (by rw [hV2]; exact setBlock_same _ _ (by rw [l1]; exact hnl2))) hT2
        have hD4 := hD2.setKeptD (E6.out V4 (by rw [hV4]; exact setBlock_same _ _ (by rw [l3]; exact hkl2))) hT4
        have cell1 : ∀ j, V1.cell? ⟨pn, j, none⟩ = W6.cell? ⟨pn, j, none⟩ := fun j => World.cell?_of_block (by rw [hV1, setBlock_other _ _ hn1]; rfl)
        have cell2 : ∀ j, V2.cell? ⟨pn, j, none⟩ = W6.cell? ⟨pn, j, none⟩ := fun j => World.cell?_of_block (hT2.block _ HA.out.head.lt hn1)
        have cell3 : ∀ j, V3.cell? ⟨pn, j, none⟩ = W6.cell? ⟨pn, j, none⟩ := fun j => (World.cell?_of_block (by rw [hV3, setBlock_other _ _ hn2])).trans (cell2 j)
        have cell4 : ∀ j, V4.cell? ⟨pn, j, none⟩ = W6.cell? ⟨pn, j, none⟩ := fun j => (World.cell?_of_block (hT4.block _ (by rw [l2]; exact HA.out.head.lt) hn2)).trans (cell2 j)
        have kn : gf ≠ Lk.nowM := dir_blk_ne HA.out.now HF6.out
        have kk : gf ≠ Lk.keptM := dir_blk_ne HA.out.kept HF6.out
        have w0 : W6.cell? ⟨gf, 0, none⟩ = some (.string ⟨nm.toArray⟩) := HF6.out.cell 0
        have w1 : V1.cell? ⟨gf, 0, none⟩ = some (.string ⟨nm.toArray⟩) := (World.cell?_of_block (by rw [hV1, setBlock_other _ _ kn]; rfl)).trans w0
        have w2 : V2.cell? ⟨gf, 0, none⟩ = some (.string ⟨nm.toArray⟩) := (World.cell?_of_block (hT2.block _ HF6.out.lt kn)).trans w0
        have w5 : V3.cell? ⟨gf, 0, none⟩ = some (.string ⟨nm.toArray⟩) := (World.cell?_of_block (by rw [hV3, setBlock_other _ _ kk])).trans w2
        have w6 : V4.cell? ⟨gf, 0, none⟩ = some (.string ⟨nm.toArray⟩) := (World.cell?_of_block (hT4.block _ (by rw [l2]; exact HF6.out.lt) kk)).trans w2
        have a2 := (cell1 2).trans m2
        have a3 := (cell1 3).trans m3
        have b2 := (cell2 2).trans m2
        have b3 := (cell2 3).trans m3
        have c2 := (cell3 2).trans m2
        have c3 := (cell3 3).trans m3
        have d2 := (cell4 2).trans m2
        have d3 := (cell4 3).trans m3
        have HD4' := Lib.hid hD4
        have HK2 := Lib.hid hD2.kept
        obtain ⟨su, hsu⟩ : ∃ su, su = (S0.loadK (fs.take k)).used := ⟨_, rfl⟩
        have hsul : 0 ≤ su ∧ su ≤ 140737488351232 := by have h1 := HINVK.out.used; have h2 := HTOT.out k; omega
        obtain ⟨hsul0, hsul1⟩ := hsul
        have HSU := Lib.hid hsu
        have HT2 := Lib.hid hT2
        have HT4 := Lib.hid hT4
        have HB6 := Lib.hid hB6
        have d1 : V4.cell? ⟨pn, 1, none⟩ = some (.int .i64 su) := by rw [hsu]; exact hD4.head.cell 1
        have d1f : V4.frozen? ⟨pn, 1, none⟩ = false := hD4.head.frozen 1
        clear hsu hV1 hV2 hV3 hV4 l1 l2 l3 hT2 hT4 hD2 hD4 cell1 cell2 cell3 cell4 hB6 hne hn1 hn2
        have hb2 : Blk V2 g 151 #[.slice a5 n c5, .int .i64 n] := (HT2.out.block g hblk.lt (fun e => dir_blk_ne HA.out.now hblk e)).trans hblk
        have hb4 : Blk V4 g 151 #[.slice a5 n c5, .int .i64 n] := (HT4.out.block g hb2.lt (fun e => dir_blk_ne HA.out.kept hblk e)).trans hb2
        have g1 : V4.cell? ⟨g, 1, none⟩ = some (.int .i64 n) := hb4.cell 1
        clear hblk hb2 hb4 kn kk
        go_region_held3 (fun w' => w'.cell? ⟨pn, 2, none⟩ = some (.map (some Lk.nowM)) ∧ w'.cell? ⟨pn, 3, none⟩ = some (.map (some Lk.keptM)) ∧ w'.cell? ⟨gf, 0, none⟩ = some (.string ⟨nm.toArray⟩)) (go_keep) (fail)
        go_wp2
        go_region
        all_goals
          go_wp2
          go_roundw
          case rel =>
            have hD5 := HD4'.out.setUsed ((su : Int) + n)
            have hkb' : (S0.loadK (fs.take k)).bodies.length = k := HINVK.out.len
            have hEQ : S0.loadK (fs.take (k + 1)) = (S0.loadK (fs.take k)).loadStep (nm, bs) := by
              rw [show fs.take (k + 1) = fs.take k ++ [(nm, bs)] by rw [List.take_add_one, HF.out]; rfl, Drv.loadK_snoc]
            have hfl : ∀ j, (j = Lk.nowM ∨ j = Lk.keptM ∨ j = pn) → w.heap.size ≤ j := fun j hj => by
              rcases hj with rfl | rfl | rfl
              · exact HFK.out _ (.inr (.inl rfl))
              · exact HFK.out _ (.inr (.inr (.inl rfl)))
              · exact hpnq
            have hx1 := HX.out.size
            have hB6q : Below w.heap.size w W6 := HBK.out.trans ((HX.out.trans (HB6.out.mono hx1)).mono hszk)
            have hB2 : Below w.heap.size w V2 := hB6q.trans (HT2.out.below hB6q.size fun j hj => hfl j (.inl hj))
            have hB4 : Below w.heap.size w V4 := hB2.trans (HT4.out.below hB2.size fun j hj => hfl j (.inr (.inl hj)))
            refine ⟨k + 1, by omega, by go_num, ⟨{ Lk with addr := Lk.addr ++ [g], vals := Lk.vals ++ [.slice a5 n c5] }, ?_, ?_⟩, (below_drewN hB4 1).setCell (hfl pn (.inr (.inr rfl))) _, HLSN⟩
            · rw [hEQ]
              unfold Drv.loadStep
              rw [hkb', ← HN.out, ← HSU.out]
              exact hD5.keep fun _ _ => rfl
            · rintro j (h | h | h | h | ⟨v, h, hv⟩ | h | h)
              · rw [h]; exact hpnq
              · exact HFK.out _ (.inr (.inl h))
              · exact HFK.out _ (.inr (.inr (.inl h)))
              · rcases List.mem_append.1 h with h | h
                · exact HFK.out _ (.inr (.inr (.inr (.inl h))))
                · simp at h; subst h; omega
              · rcases List.mem_append.1 h with h | h
                · exact HFK.out _ (.inr (.inr (.inr (.inr (.inl ⟨v, h, hv⟩)))))
                · simp at h; subst h
                  have := (HROW.out.lt j hv).1; omega
              · exact HFK.out _ (.inr (.inr (.inr (.inr (.inr (.inl h))))))
              · exact HFK.out _ (.inr (.inr (.inr (.inr (.inr (.inr h))))))
          case measure => simp [intOf]; omega
    · obtain rfl : k = m := by omega
      have hE : Hid (fs.take k = fs) := Lib.hid (by rw [HM.out, List.take_length])
      have HDE : Hid (DrvAt wr pn (S0.loadK fs) Lk) := Lib.hid (by have h := HDK.out; rw [hE.out] at h; exact h)
      go_wp2
      go_ret
      exact ⟨fun _ => ⟨pn, rfl, ⟨_, Lk, rfl, HDE.out, fun j hj => ⟨HFK.out j hj, HDE.out.foot_lt hj⟩⟩⟩, fun h => (by have h2 := HLS.out; rw [hE.out, h] at h2; cases h2), HBK.out⟩
end Go.Proofs.YtcbebefdbdppdaaGreat
namespace Go.Proofs.YtcbebefdbdppdaaGreat
open Go.RowKit Go.Maps
theorem load_body_lt (S : Drv) (f : File) {i : Nat} (h : i < S.bodies.length) : (S.loadStep f).body i = S.body i := by
  unfold Drv.body Drv.loadStep
  simp only [List.getD, List.getElem?_append_left h]
theorem load_body_eq (S : Drv) (f : File) : (S.loadStep f).body S.bodies.length = ⟨f.2, f.2.length⟩ := by
  unfold Drv.body Drv.loadStep
  simp [List.getD]
theorem load_body_gt (S : Drv) (f : File) {i : Nat} (h : S.bodies.length < i) : (S.loadStep f).body i = ⟨[], 0⟩ := by
  unfold Drv.body Drv.loadStep
  simp only [List.getD]
  rw [List.getElem?_eq_none (by rw [List.length_append]; simp; omega)]; rfl
theorem load_body (S : Drv) (f : File) (i : Nat) : (S.loadStep f).body i = S.body i ∨ (S.loadStep f).body i = ⟨f.2, f.2.length⟩ ∨ (S.loadStep f).body i = ⟨[], 0⟩ := by
  rcases Nat.lt_trichotomy i S.bodies.length with h | h | h
  · exact .inl (load_body_lt S f h)
  · rw [h]; exact .inr (.inl (load_body_eq S f))
  · exact .inr (.inr (load_body_gt S f h))
theorem dget_none_of {D : Dir} {s : Nm} (h : has D (key s) = false) : dget D s = none := by
  unfold dget; rw [atKey_of_not_has h .nil]; rfl
theorem Inv.load {S : Drv} {N : Nat} (h : S.Inv N) (hp : S.pending = []) (hsame : S.kept = S.now) (f : File) (hfit : S.loadFits f = true) (hl : f.2.length ≤ 1073741824) (hr : (N + 1) ≤ 1073741824) : (S.loadStep f).Inv (N + 1) := by
  unfold Drv.loadFits at hfit
  simp only [Bool.and_eq_true, Bool.not_eq_true'] at hfit
  obtain ⟨hn, hh⟩ := hfit
  have hnl := named_len hn
  have hg := dget_none_of hh
  have hperm : (refs (S.now.put (key f.1) (num S.bodies.length))).Perm (S.bodies.length :: refs S.now) := by
    refine (refs_put h.tnow f.1 S.bodies.length).trans (List.Perm.cons _ ?_)
    have h1 := refs_del h.tnow f.1
    rw [hg] at h1
    exact h1.symm
  have hnot : S.bodies.length ∉ refs S.now := fun hm => by have := h.rlt _ hm; omega
  have hlen : ∀ i, i < S.bodies.length → (S.loadStep f).len i = S.len i := fun i hi => by unfold Drv.len; rw [load_body_lt S f hi]
  have hs1 : size (S.now.put (key f.1) (num S.bodies.length)) ≤ N + 1 := Nat.le_trans (size_put_le h.tnow f.1 _) (by have := h.snow; omega)
  have hk1 : size (S.kept.put (key f.1) (num S.bodies.length)) ≤ N + 1 := Nat.le_trans (size_put_le h.tkept f.1 _) (by have := h.skept; omega)
  exact {
    tnow := h.tnow.put (isKey _) _
    tkept := h.tkept.put (isKey _) _
    know := h.know.put h.tnow _ _
    kkept := h.kkept.put h.tkept _ _
    nodup := hperm.nodup_iff.2 (List.nodup_cons.2 ⟨hnot, h.nodup⟩)
    rlt := fun i hi => by
      show i < (S.bodies ++ [_]).length
      rw [List.length_append]
      rcases List.mem_cons.1 (hperm.mem_iff.1 hi) with h1 | h1
      · rw [h1]; simp
      · have := h.rlt i h1; simp; omega
    used := by
      have h1 : (S.loadStep f).sum (refs (S.now.put (key f.1) (num S.bodies.length))) = (S.loadStep f).sum (S.bodies.length :: refs S.now) := Drv.sum_perm _ hperm
      have h2 : (S.loadStep f).sum (refs S.now) = S.sum (refs S.now) := Drv.sum_same fun i hi => hlen i (h.rlt i hi)
      have h3 : (S.loadStep f).len S.bodies.length = f.2.length := by unfold Drv.len; rw [load_body_eq]
      have h4 : (S.loadStep f).sum (S.bodies.length :: refs S.now) = (S.loadStep f).len S.bodies.length + (S.loadStep f).sum (refs S.now) := by unfold Drv.sum; rw [List.map_cons, List.sum_cons]
      have h5 := h.used
      show S.used + (f.2.length : Int) = (((S.loadStep f).sum (refs (S.now.put (key f.1) (num S.bodies.length))) : Nat) : Int)
      rw [h1, h4, h3, h2]; omega
    len := fun i => by
      show (S.loadStep f).len i ≤ 1073741824
      unfold Drv.len
      rcases load_body S f i with h1 | h1 | h1 <;> rw [h1]
      · exact h.len i
      · exact hl
      · exact Nat.zero_le _
    safe := fun i => by
      unfold Drv.len
      rcases load_body S f i with h1 | h1 | h1 <;> rw [h1]
      · exact h.safe i
      · exact Nat.le_refl _
      · exact Nat.le_refl _
    fnow := h.fnow.put h.tnow hnl _
    fkept := h.fkept.put h.tkept hnl _
    snow := hs1
    skept := by
      show size (S.kept.put _ _) + (S.pending.map puts).sum ≤ _
      rw [hp]; exact hk1
    pend := by show S.pending.length ≤ _; rw [hp]; exact Nat.zero_le _
    pok := fun c hc => by have hc' : c ∈ S.pending := hc; rw [hp] at hc'; cases hc'
    room := h.room
    rooms := hr }
end Go.Proofs.YtcbebefdbdppdaaGreat
