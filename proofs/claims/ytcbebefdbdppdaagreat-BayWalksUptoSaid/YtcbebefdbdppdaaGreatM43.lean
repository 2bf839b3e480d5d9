/- The document's drive, walked: Load.; Worlds of drives: a copy of files. -/
import Derived.Test.YtcbebefdbdppdaaGreatM42
import Derived.Test.YtcbebefdbdppdaaGreatM38
namespace Go.Proofs.YtcbebefdbdppdaaGreat
open Go.RowKit Go.Maps
def loadOk (r : Int) (fs : List File) : Bool := decide (0 ≤ r ∧ r ≤ 1073741824) && (Drv.new r.toNat).loads fs
def ldK (r : Nat) (fs : List File) (k : Nat) : Drv := { (Drv.new r).loadK (fs.take k) with kept := .map [], used := 0 }
structure LdInv (S : Drv) (k : Nat) : Prop where
  sound : Sound S.now
  size : size S.now = k
  bodies : S.bodies.length = k
  pend : S.pending = []
  refs : ∀ s i, dget S.now s = some i → i < k
theorem LdInv.step {S : Drv} {k : Nat} (h : LdInv S k) (f : File) (hf : S.loadFits f = true) : LdInv (S.loadStep f) (k + 1) := by
  unfold Drv.loadFits at hf
  simp only [Bool.and_eq_true, Bool.not_eq_true'] at hf
  have hsz : Maps.size (S.now.put (key f.1) (num S.bodies.length)) = Maps.size S.now + 1 := by rw [size_put h.sound.tidy]; rw [if_neg (by rw [hf.2]; decide)]
  refine ⟨h.sound.put (named_len hf.1) _, ?_, ?_, h.pend, fun s i hi => ?_⟩
  · show Maps.size (S.now.put _ _) = _; rw [hsz, h.size]
  · show (S.bodies ++ [_]).length = _; rw [List.length_append, h.bodies]; rfl
  · by_cases e : s = f.1
    · subst e
      have hi' : dget (S.now.put (key f.1) (num S.bodies.length)) f.1 = some i := hi
      rw [dget_put_same h.sound.tidy.isMap] at hi'
      injection hi' with hi'
      rw [h.bodies] at hi'; omega
    · have hi' : dget (S.now.put (key f.1) (num S.bodies.length)) s = some i := hi
      rw [dget_put_other e] at hi'
      have := h.refs s i hi'; omega
theorem ldInv (r : Nat) (fs : List File) (h : (Drv.new r).loads fs = true) : ∀ k, k ≤ fs.length → LdInv ((Drv.new r).loadK (fs.take k)) k
  | 0, _ => ⟨sound_empty, rfl, rfl, rfl, fun s i hi => by rw [show ((Drv.new r).loadK (fs.take 0)).now = .map [] from rfl, dget_empty] at hi; cases hi⟩
  | k + 1, hk => by
    have hkl : k < fs.length := by omega
    have hg : fs[k]? = some fs[k] := List.getElem?_eq_getElem hkl
    rw [take_snoc_ hg, Drv.loadK_snoc]
    exact (ldInv r fs h k (by omega)).step _ (Drv.loads_at h hg)
theorem bod_mid {w W1 w2 : World} {p nb cb c2 : Nat} {S : Drv} {L : MLay} {h0 : Nat} {ab a2 : Option Addr} {o : Obj} {d : Value} {B : Body} (hh : MdAt w p S L) (hF : ∀ k, L.foot p k → h0 ≤ k) (hvb : L.vb = .slice ab nb cb) (hnb : nb = S.bodies.length) (hW : Below w.heap.size w W1) (hle : h0 ≤ w.heap.size)
    (hd : W1.ownsRow h0 5 1 d B.data.length (B.data.map B8)) (hb3 : Blk w2 p 226 (mhead S L))
    (hr3 : (W1.alloc o).ownsRow 0 229 2 (.slice ab nb cb) nb (bodCells L.dat S.bodies))
    (hO2 : w2.ownsRow 0 229 2 (.slice a2 (nb + 1) c2) (nb + 1) (bodCells L.dat S.bodies ++ [d, .int .i64 B.safe])) (hg2 : (W1.alloc o).grownBy w2 (Value.slice ab nb cb).ownBlock)
    (hat : (Value.slice a2 (nb + 1) c2).ownBlock = (Value.slice ab nb cb).ownBlock ∨ (Value.slice a2 (nb + 1) c2).ownBlock = some (W1.alloc o).heap.size) :
    MdAt (w2.setCell ⟨p, 1, none⟩ (.slice a2 (nb + 1) c2)) p { S with bodies := S.bodies ++ [B] } { L with vb := .slice a2 (nb + 1) c2, dat := L.dat ++ [d] } ∧ (∀ k, ({ L with vb := .slice a2 (nb + 1) c2, dat := L.dat ++ [d] } : MLay).foot p k → h0 ≤ k) ∧ Below h0 W1 (w2.setCell ⟨p, 1, none⟩ (.slice a2 (nb + 1) c2)) := by
  have hpf : h0 ≤ p := hF p (.inl rfl)
  have hsz := hW.size
  refine ⟨hh.addBody (fun h1 h2 h3 => row_set (row_grown ((ownsRow_below h1 hW).alloc o) hr3 hg2 h3) hb3 h2 1 _) ?_ ?_ ?_, ?_, ?_⟩
  · have := hb3.set_ 1 (.slice a2 (nb + 1) c2)
    unfold mhead at this ⊢
    exact this
  · rw [← hnb]; exact row_set hO2 hb3 (by decide) 1 _
  · exact row_set (row_grown ((ownsRow_base_a hd (Nat.zero_le _)).alloc o) hr3 hg2 (by decide)) hb3 (by decide) 1 _
  · rintro k (hk | hk | hk | hk | hk | ⟨v, hv, hk⟩ | ⟨v, hv, hk⟩)
    · exact hF k (.inl hk)
    · rcases hat with e | e
      · exact hF k (.inr (.inl (by rw [hvb]; exact e.symm.trans hk)))
      · have hk' : (Value.slice a2 (nb + 1) c2).ownBlock = some k := hk
        rw [e] at hk'
        injection hk' with hk'
        rw [alloc_size] at hk'
        omega
    · exact hF k (.inr (.inr (.inl hk)))
    · exact hF k (.inr (.inr (.inr (.inl hk))))
    · exact hF k (.inr (.inr (.inr (.inr (.inl hk)))))
    · rcases List.mem_append.1 hv with hv | hv
      · exact hF k (.inr (.inr (.inr (.inr (.inr (.inl ⟨v, hv, hk⟩))))))
      · rw [List.mem_singleton] at hv; subst hv; exact (hd.lt k hk).1
    · exact hF k (.inr (.inr (.inr (.inr (.inr (.inr ⟨v, hv, hk⟩))))))
  · exact (((Below.refl h0 W1).alloc (by omega) o).grown hg2 (by rw [alloc_size]; omega) (fun k hk => hF k (.inr (.inl (by rw [hvb]; exact hk))))).setCell hpf _
theorem MdAt.setNow {w w' : World} {p : Nat} {S : Drv} {L : MLay} {v : Value} {D : Dir} (h : MdAt w p S L) (hp : S.pending = []) (hk : S.kept = .map []) (hvk : L.vk = .slice none 0 0)
    (car : ∀ {base size n : Nat} {e : TypeId} {v : Value} {xs : List Value}, w.ownsRow base e size v n xs → e ≠ 226 → e ≠ 221 → w'.ownsRow base e size v n xs)
    (hh : Blk w' p 226 (mhead S { L with vn := v })) (hrow : w'.ownsRow 0 221 2 v (dents D).length (entCells (dents D))) : MdAt w' p { S with now := D } { L with vn := v } where
  head := hh
  rows := {
    bod := car h.rows.bod (by decide) (by decide)
    ld := h.rows.ld
    data := fun i hi => car (h.rows.data i hi) (by decide) (by decide)
    now := hrow
    kept := by show World.ownsRow _ _ _ _ L.vk (dents S.kept).length (entCells (dents S.kept)); rw [hk, hvk, dents_nil]; exact World.ownsRow_nil _ _ _ _
    chs := car h.rows.chs (by decide) (by decide)
    lc := h.rows.lc
    chg := fun j hj => by have hj' : j < S.pending.length := hj; rw [hp] at hj'; exact absurd hj' (by simp) }
theorem loadK_same (r : Nat) (fs : List File) : ((Drv.new r).loadK fs).kept = ((Drv.new r).loadK fs).now := by
  have := (Drv.loadInv r fs fs.length (Nat.le_refl _)).same
  rw [List.take_length] at this; exact this
theorem ml0_foot {p h0 k : Nat} (hp : h0 ≤ p) (hk : ml0.foot p k) : h0 ≤ k := by
  rcases hk with hk | hk | hk | hk | hk | ⟨v, hv, hk⟩ | ⟨v, hv, hk⟩
  · omega
  · simp [ml0, Value.ownBlock] at hk
  · simp [ml0, Value.ownBlock] at hk
  · simp [ml0, Value.ownBlock] at hk
  · simp [ml0, Value.ownBlock] at hk
  · cases hv
  · cases hv
structure LdAt (wr : World) (h0 p : Nat) (S : Drv) (L : MLay) : Prop where
  at_ : MdAt wr p S L
  foot : ∀ k, L.foot p k → h0 ≤ k
  vk : L.vk = .slice none 0 0
theorem no_has {D : Dir} (h : Sound D) {s : Nm} (hall : ∀ e ∈ dents D, e.1 < s) : has D (key s) = false := by
  cases hh : has D (key s) with
  | false => rfl
  | true =>
    obtain ⟨i, hi⟩ := (h.full s hh).2
    exact absurd (hall _ (((dents_ents h).mem s i).2 hi)) (nm_irrefl s)
theorem last_all {l : List Ent} (h : l.Pairwise fun a b => a.1 < b.1) {k : Nat} {t nm : Nm} {i : Nat} (hk : l[k - 1]? = some (t, i)) (hl : l.length = k) (hk1 : 1 ≤ k) (ht : t < nm) : ∀ e ∈ l, e.1 < nm := by
  intro e he
  obtain ⟨j, hj, rfl⟩ := List.getElem_of_mem he
  obtain ⟨hlt, hx⟩ := List.getElem?_eq_some_iff.1 hk
  by_cases hjk : j = k - 1
  · subst hjk; rw [hx]; exact ht
  · have := (List.pairwise_iff_getElem.1 h) j (k - 1) hj hlt (by omega)
    rw [hx] at this
    exact nm_trans this ht
theorem has_of {D : Dir} {s : Nm} {i : Nat} (h : dget D s = some i) : has D (key s) = true := by
  cases hh : has D (key s) with
  | true => rfl
  | false => rw [dget_none_of hh] at h; cases h
theorem has_none {D : Dir} (h : Sound D) {s : Nm} (hg : dget D s = none) : has D (key s) = false := by
  cases hh : has D (key s) with
  | false => rfl
  | true =>
    obtain ⟨i, hi⟩ := (h.full s hh).2
    rw [hg] at hi; cases hi
theorem now_mid {X w5 : World} {p k cn c5 h0 : Nat} {S : Drv} {L : MLay} {an a5 : Option Addr} {o : Obj} {nm : Nm} {i : Nat} {D : Dir} (hM : MdAt X p S L) (hF : ∀ k, L.foot p k → h0 ≤ k) (hvn : L.vn = .slice an k cn) (hp : S.pending = []) (hkp : S.kept = .map []) (hvk : L.vk = .slice none 0 0)
    (hk : (dents S.now).length = k) (hle : h0 ≤ X.heap.size) (hD : dents D = dents S.now ++ [(nm, i)]) (hb5 : Blk w5 p 226 (mhead S L)) (hr3 : (X.alloc o).ownsRow 0 221 2 (.slice an k cn) k (entCells (dents S.now)))
    (hO : w5.ownsRow 0 221 2 (.slice a5 (k + 1) c5) (k + 1) (entCells (dents S.now) ++ [.string ⟨nm.toArray⟩, .int .i64 i])) (hg : (X.alloc o).grownBy w5 (Value.slice an k cn).ownBlock)
    (hat : (Value.slice a5 (k + 1) c5).ownBlock = (Value.slice an k cn).ownBlock ∨ (Value.slice a5 (k + 1) c5).ownBlock = some (X.alloc o).heap.size) :
    LdAt (w5.setCell ⟨p, 2, none⟩ (.slice a5 (k + 1) c5)) h0 p { S with now := D } { L with vn := .slice a5 (k + 1) c5 } ∧ Below h0 X (w5.setCell ⟨p, 2, none⟩ (.slice a5 (k + 1) c5)) := by
  have hpf : h0 ≤ p := hF p (.inl rfl)
  refine ⟨⟨hM.setNow hp hkp hvk (fun h1 h2 h3 => row_set (row_grown (h1.alloc o) hr3 hg h3) hb5 h2 2 _) ?_ ?_, ?_, hvk⟩, ?_⟩
  · have := hb5.set_ 2 (.slice a5 (k + 1) c5)
    unfold mhead at this ⊢
    exact this
  · rw [hD, List.length_append, hk, entCells_snoc]
    exact row_set hO hb5 (by decide) 2 _
  · rintro j (hk | hk | hk | hk | hk | ⟨v, hv, hk⟩ | ⟨v, hv, hk⟩)
    · exact hF j (.inl hk)
    · exact hF j (.inr (.inl hk))
    · rcases hat with e | e
      · exact hF j (.inr (.inr (.inl (by rw [hvn]; exact e.symm.trans hk))))
      · have hk' : (Value.slice a5 (k + 1) c5).ownBlock = some j := hk
        rw [e] at hk'
        injection hk' with hk'
        rw [alloc_size] at hk'
        omega
    · exact hF j (.inr (.inr (.inr (.inl hk))))
    · exact hF j (.inr (.inr (.inr (.inr (.inl hk)))))
    · exact hF j (.inr (.inr (.inr (.inr (.inr (.inl ⟨v, hv, hk⟩))))))
    · exact hF j (.inr (.inr (.inr (.inr (.inr (.inr ⟨v, hv, hk⟩))))))
  · exact (((Below.refl h0 X).alloc hle o).grown hg (by rw [alloc_size]; omega) (fun j hj => hF j (.inr (.inr (.inl (by rw [hvn]; exact hj)))))).setCell hpf _
theorem now_set {X w5 : World} {p h0 : Nat} {S : Drv} {L : MLay} {v : Value} {D : Dir} (hM : MdAt X p S L) (hF : ∀ k, L.foot p k → h0 ≤ k) (hp : S.pending = []) (hkp : S.kept = .map []) (hvk : L.vk = .slice none 0 0)
    (hle : h0 ≤ X.heap.size) (hO : w5.ownsRow X.heap.size 221 2 v (dents D).length (entCells (dents D))) (hb : Below X.heap.size X w5) :
    LdAt (w5.setCell ⟨p, 2, none⟩ v) h0 p { S with now := D } { L with vn := v } ∧ Below h0 X (w5.setCell ⟨p, 2, none⟩ v) := by
  have hpf : h0 ≤ p := hF p (.inl rfl)
  have hb5 : Blk w5 p 226 (mhead S L) := hM.head.below hb hM.head.lt
  refine ⟨⟨hM.setNow hp hkp hvk (fun h1 h2 h3 => row_set (ownsRow_below h1 hb) hb5 h2 2 _) ?_ ?_, ?_, hvk⟩, ?_⟩
  · have := hb5.set_ 2 v
    unfold mhead at this ⊢
    exact this
  · exact row_set (ownsRow_base_a hO (Nat.zero_le _)) hb5 (by decide) 2 _
  · rintro j (hk | hk | hk | hk | hk | ⟨u, hu, hk⟩ | ⟨u, hu, hk⟩)
    · exact hF j (.inl hk)
    · exact hF j (.inr (.inl hk))
    · have := (hO.lt j hk).1; omega
    · exact hF j (.inr (.inr (.inr (.inl hk))))
    · exact hF j (.inr (.inr (.inr (.inr (.inl hk)))))
    · exact hF j (.inr (.inr (.inr (.inr (.inr (.inl ⟨u, hu, hk⟩))))))
    · exact hF j (.inr (.inr (.inr (.inr (.inr (.inr ⟨u, hu, hk⟩))))))
  · exact (hb.mono hle).setCell hpf _
set_option maxRecDepth 100000 in
set_option maxHeartbeats 8000000 in
theorem mload_any (r : Int) (fs : List File) (vals : List Value) (A : Option Addr) (c : Nat) (w : World) (hin : FilesIn w A fs vals) (hsp : ∀ ad, A = some ad → 0 < fs.length → ad.spot = none) (hfs : fs.length ≤ 1099511627776) (htot : Drv.total fs ≤ 140737488351232) (hnl : ∀ f ∈ fs, f.1.length ≤ 1099511627776) :
    Calls Tryz.prog 74 #[.int .i64 r, .slice A fs.length c] w fun e w' => (loadOk r fs = true → ∃ p, e = .returned (.pointer (some ⟨p, 0, none⟩)) ∧ Md w' p ((Drv.new r.toNat).loadK fs) (fun k => w.heap.size ≤ k ∧ k < w'.heap.size)) ∧ (loadOk r fs = false → e = .returned (.pointer none)) ∧ Below w.heap.size w w' := by
  by_cases hr : 0 ≤ r ∧ r ≤ 1073741824
  rotate_left
  · have hno : loadOk r fs = false := by unfold loadOk; rw [decide_eq_false hr]; rfl
    rw [hno]
    have HN := Lib.hid (mnew_bad r w (by omega))
    clear hin hsp hfs htot hnl hno hr
    go_enter Tryz.func74, Tryz.ntmps74
    go_wp2_with (go_at_call 132; refine HN.out.mono ?_; rintro e w' ⟨rfl, rfl⟩)
    go_ret
    exact ⟨fun h => (by cases h), fun _ => rfl, Below.refl _ _⟩
  obtain ⟨hr0, hr1⟩ := hr
  have hlo : loadOk r fs = (Drv.new r.toNat).loads fs := by unfold loadOk; rw [decide_eq_true ⟨hr0, hr1⟩]; rfl
  rw [hlo]
  obtain ⟨i0, hi0, hz0, hz1, hz2⟩ := info_parts bodInfo
  obtain ⟨iE, hiE, hy0, hy1, hy2⟩ := info_parts entInfo
  have HNW := Lib.hid (mnew_good r w hr0 hr1)
  have HIN := Lib.hid hin
  have HNL := Lib.hid hnl
  have HSP := Lib.hid hsp
  have HTOG := Lib.hid (fun (k : Nat) (f : File) (h : fs[k]? = some f) => Nat.le_trans (Drv.total_get fs h) htot)
  have HLD := Lib.hid (fun k => ldInv r.toNat (fs.take k))
  obtain ⟨m, hm⟩ : ∃ m, m = fs.length := ⟨_, rfl⟩
  obtain ⟨S0, hS0⟩ : ∃ S0, S0 = Drv.new r.toNat := ⟨_, rfl⟩
  have HM := Lib.hid hm
  have HS0 := Lib.hid hS0
  rw [← hm] at hfs ⊢
  rw [← hS0] at HNW HLD ⊢
  clear hin hsp htot hnl hm hS0 hlo
  go_enter Tryz.func74, Tryz.ntmps74
  go_wp2_with (go_at_call 132; refine HNW.out.mono ?_; rintro e w1 ⟨rfl, hm1, hb1⟩; have HM1 : Hid (MdAt w1 w.heap.size (ldK r.toNat fs 0) ml0) := Lib.hid (by rw [HS0.out] at hm1; exact hm1.same rfl rfl rfl rfl rfl); have HB1 := Lib.hid hb1; clear hm1 hb1)
  obtain ⟨p, hp⟩ : ∃ p, p = w.heap.size := ⟨_, rfl⟩
  rw [← hp] at HM1 ⊢
  have hpw : w.heap.size ≤ p := by omega
  have HP := Lib.hid hp
  clear hp
  go_loopw [6, 7, 8, 9] (fun s6 _ _ _ wr => ∃ k : Nat, k ≤ m ∧ s6 = .int .i64 k ∧ (∃ Lk, LdAt wr w.heap.size p (ldK r.toNat fs k) Lk) ∧ Below w.heap.size w wr ∧ Hid (S0.loads (fs.take k) = true)) (fun s _ _ _ _ => m - (intOf s).toNat)
  case atStart => exact ⟨0, Nat.zero_le _, rfl, ⟨ml0, HM1.out, fun k hk => ml0_foot hpw hk, rfl⟩, HB1.out, Lib.hid rfl⟩
  case round =>
    obtain ⟨k, hk, rfl, ⟨Lk, hld⟩, hbk, HLS⟩ := hrel
    have HLDA := Lib.hid hld
    have HBK := Lib.hid hbk
    have hszk := hbk.size
    have hpl := hld.at_.head.lt
    have hinv : LdInv (S0.loadK (fs.take k)) k := by
      have h := HLD.out k HLS.out k (by rw [List.length_take, ← HM.out]; omega)
      rw [List.take_take, Nat.min_self] at h; exact h
    have HI := Lib.hid hinv
    by_cases hltm : k < m
    · obtain ⟨f, hf⟩ : ∃ f, fs[k]? = some f := ⟨_, List.getElem?_eq_getElem (by rw [← HM.out]; exact hltm)⟩
      obtain ⟨u, hu⟩ : ∃ u, vals[k]? = some u := ⟨_, List.getElem?_eq_getElem (by rw [HIN.out.len, ← HM.out]; exact hltm)⟩
      obtain ⟨a, cf, rfl, hdat⟩ := HIN.out.data k f u hf hu
      obtain ⟨nm, bs⟩ := f
      obtain ⟨n, hn⟩ : ∃ n, n = bs.length := ⟨_, rfl⟩
      have hdat' : Reads w w.heap.size 1 a n (bs.map B8) := by rw [hn]; exact hdat
      have hu' : vals[k]? = some (.slice a n cf) := by rw [hn]; exact hu
      have hnb : n ≤ 140737488351232 := by rw [hn]; exact HTOG.out k _ hf
      have hnml : nm.length ≤ 1099511627776 := HNL.out _ (List.mem_of_getElem? hf)
      obtain ⟨ad, hA, hbl, hcl⟩ := HIN.out.row.2 (by rw [← HM.out]; omega)
      obtain ⟨gA, oA, sA⟩ := ad
      have hsA : sA = none := HSP.out _ hA (by rw [← HM.out]; omega)
      subst hsA
      subst hA
      have hg2 := fileCells_get fs vals hf hu'
      have x0 : wr.cell? ⟨gA, oA + k * 2, none⟩ = some (.string ⟨nm.toArray⟩) := by
        have h := hcl _ _ hg2.1
        rw [add_plain] at h
        exact (World.cell?_of_block (hbk.block gA hbl)).trans h
      have hw1 : w.cell? ⟨gA, oA + k * 2 + 1, none⟩ = some (.slice a n cf) := by
        have h := hcl _ _ hg2.2
        rw [add_plain] at h
        exact h
      have HW1 := Lib.hid hw1
      have x1 : wr.cell? ⟨gA, oA + k * 2 + 1, none⟩ = some (.slice a n cf) := (World.cell?_of_block (hbk.block gA hbl)).trans hw1
      have HRD : Hid (∀ V, Below w.heap.size w V → Reads V V.heap.size 1 a n (bs.map B8)) := Lib.hid fun V hV => (hdat'.below hV).more hV.size
      have HNMV : Hid (∀ V, Calls Tryz.prog 133 #[.string ⟨nm.toArray⟩] V fun e w' => e = .returned (.bool (named nm)) ∧ V = w') := Lib.hid fun V => mnamed_nm nm V (by unfold maxLen; omega)
      have HF := Lib.hid hf
      have HN := Lib.hid hn
      obtain ⟨S, hS⟩ : ∃ S, S = ldK r.toNat fs k := ⟨_, rfl⟩
      have HS := Lib.hid hS
      rw [← hS] at HLDA
      have hnow : S.now = (S0.loadK (fs.take k)).now := by rw [hS, HS0.out]; rfl
      have hso : Sound S.now := by rw [hnow]; exact hinv.sound
      have hdl : (dents S.now).length = k := by rw [dents_length, hnow, hinv.size]
      have hbl2 : S.bodies.length = k := by rw [hS]; show ((Drv.new r.toNat).loadK (fs.take k)).bodies.length = k; rw [← HS0.out]; exact hinv.bodies
      have HSO := Lib.hid hso
      have HDL := Lib.hid hdl
      have HBL := Lib.hid hbl2
      have HNOW := Lib.hid hnow
      obtain ⟨an, cn, hvn, _⟩ := own_shape HLDA.out.at_.rows.now
      obtain ⟨ab, cb, hvb, _⟩ := own_shape HLDA.out.at_.rows.bod
      rw [hdl] at hvn
      rw [hbl2] at hvb
      have c1 : wr.cell? ⟨p, 1, none⟩ = some (.slice ab k cb) := by have := HLDA.out.at_.head.cell 1; rw [this]; show some Lk.vb = _; rw [hvb]
      have c2 : wr.cell? ⟨p, 2, none⟩ = some (.slice an k cn) := by have := HLDA.out.at_.head.cell 2; rw [this]; show some Lk.vn = _; rw [hvn]
      have HVN := Lib.hid hvn
      have HVB := Lib.hid hvb
      have HFI : Hid (Calls Tryz.prog 134 #[.slice an k cn, .string ⟨nm.toArray⟩] wr fun e w' => e = .returned (.int .i64 (numI (dget S.now nm))) ∧ wr = w') := Lib.hid (by
        have h := mfind_any S.now (dents S.now) (dents_ents hso) Lk.vn k nm wr hdl (by have := HLDA.out.at_.rows.now; rw [hdl] at this; exact this) (by omega)
        rw [hvn] at h; exact h)
      have HLK : Hid (ldK r.toNat fs (k + 1) = { S with bodies := S.bodies ++ [⟨bs, n⟩], now := S.now.put (key nm) (num k) }) := Lib.hid (by
        have e1 : ((Drv.new r.toNat).loadK (fs.take k)).bodies.length = k := by rw [← HS0.out]; exact hinv.bodies
        rw [hS]; unfold ldK; rw [take_snoc_ hf, Drv.loadK_snoc]; unfold Drv.loadStep; simp only; rw [e1, hn])
      have HPD : Hid (S.pending = []) := Lib.hid (by rw [hS]; show ((Drv.new r.toNat).loadK (fs.take k)).pending = []; rw [← HS0.out]; exact hinv.pend)
      have HKP : Hid (S.kept = .map []) := Lib.hid (by rw [hS]; rfl)
      have hstop : named nm = false ∨ has S.now (key nm) = true → S0.loads fs = false := fun h => loads_stop hf (by
        unfold Drv.loadFits
        show (named nm && !(has (S0.loadK (fs.take k)).now (key nm))) = false
        rw [← hnow]
        rcases h with h | h
        · rw [h]; rfl
        · rw [h]; simp)
      have HSTOP := Lib.hid hstop
      have hgo : named nm = true → has S.now (key nm) = false → S0.loads (fs.take (k + 1)) = true := fun h1 h2 => by
        rw [take_snoc_ hf, loads_snoc, HLS.out]
        show (true && (named nm && !(has (S0.loadK (fs.take k)).now (key nm)))) = true
        rw [← hnow, h1, h2]; rfl
      have HGO := Lib.hid hgo
      have hgAl : gA < w.heap.size := hbl
      have hgp : gA ≠ p := by omega
      have HBO : Hid (wr.ownsRow 0 229 2 (.slice ab k cb) k (bodCells Lk.dat S.bodies)) := Lib.hid (by have := HLDA.out.at_.rows.bod; rw [hvb, hbl2] at this; exact this)
      clear hf hu hu' hdat hdat' hn hbl hcl hg2 hw1 hld hbk hinv hS hnow hso hdl hbl2 hvn hvb hstop hgo
      cases hnd : named nm with
      | false =>
        rw [hnd] at HNMV
        have HST : Hid (S0.loads fs = false) := Lib.hid (HSTOP.out (.inl hnd))
        clear hnd
        by_cases hk0 : k = 0
        · have hkz : ((k : Int) == 0) = true := by rw [hk0]; rfl
          have HK0 := Lib.hid hk0
          clear hk0
          go_wp2_with (go_at_call 133; refine (HNMV.out _).mono ?_; rintro e w' ⟨rfl, rfl⟩)
          go_ret
          exact ⟨fun h => (by rw [HST.out] at h; cases h), fun _ => rfl, HBK.out⟩
        · have hkz : ((k : Int) == 0) = false := by simpa using hk0
          obtain ⟨⟨t, i⟩, hti⟩ : ∃ x, (dents S.now)[k - 1]? = some x := ⟨_, List.getElem?_eq_getElem (by rw [HDL.out]; omega)⟩
          have hrow := HLDA.out.at_.rows.now
          rw [HVN.out] at hrow
          rw [HDL.out] at hrow
          obtain ⟨b, rfl, hbl, y1, y2⟩ := row_pair hrow hti HDL.out
          simp only [strV] at y1
          have hk1 : 1 ≤ k := by omega
          obtain ⟨bz, hbz⟩ : ∃ bz, bz = Op.bytesLess t nm := ⟨_, rfl⟩
          clear hk0 hti hrow y2
          go_wp2_with (go_at_call 133; refine (HNMV.out _).mono ?_; rintro e w' ⟨rfl, rfl⟩)
          go_ret
          exact ⟨fun h => (by rw [HST.out] at h; cases h), fun _ => rfl, HBK.out⟩
      | true =>
        rw [hnd] at HNMV
        have HND := Lib.hid hnd
        have hcopy : Hid (∀ V, Below wr.heap.size wr V → Calls Tryz.prog 135 #[.slice a n cf] V fun e w' => ∃ v, e = .returned v ∧ w'.ownsRow V.heap.size 5 1 v n (bs.map B8) ∧ Below V.heap.size V w') := Lib.hid fun V hV => copied_any a n cf bs V (HRD.out V (HBK.out.trans (hV.mono hszk))) hnb
        have HQ : Hid (∀ V, Below wr.heap.size wr V → V.cell? ⟨gA, oA + k * 2 + 1, none⟩ = some (.slice a n cf) ∧ V.cell? ⟨p, 1, none⟩ = some (.slice ab k cb)) := Lib.hid fun V hV => ⟨((HBK.out.trans (hV.mono hszk)).cell (p := ⟨gA, oA + k * 2 + 1, none⟩) hgAl).trans HW1.out, (hV.cell (p := ⟨p, 1, none⟩) hpl).trans c1⟩
        clear hnd
        by_cases hk0 : k = 0
        · have hkz : ((k : Int) == 0) = true := by rw [hk0]; rfl
          have hall : ∀ e ∈ dents S.now, e.1 < nm := fun e he => by
            have h1 := HDL.out
            rw [hk0] at h1
            rw [List.length_eq_zero_iff.1 h1] at he; cases he
          have HALL := Lib.hid hall
          have HNH : Hid (has S.now (key nm) = false) := Lib.hid (no_has HSO.out hall)
          clear hk0 hall
          go_wp2_with (go_at_call 133; refine (HNMV.out _).mono ?_; rintro e w' ⟨rfl, rfl⟩)
          refine wp_region_held_drew (S := (fun w' => w'.cell? ⟨gA, oA + k * 2 + 1, none⟩ = some (.slice a n cf))) (by kernel_rfl) ?_ (fun hHeld => ?_)
          · ((try dsimp only); (first | go_keep | exact (HQ.out _ HBW.out).1 | exact (HQ.out _ (HBA.out _)).1 | exact s3 | exact s4 _))
          refine hT (v := ?_) 0 rfl (by assumption) ?_ ?_
          rotate_left
          · (intro wS hSw; (try dsimp only at hSw); go_simp; try with_reducible rfl)
          try simp only [Act.put, List.setIfInBounds_toArray]
          refine hT (v := ?_) 1 rfl (by assumption) ?_ ?_
          rotate_left
          · (intro wS hSw; (try dsimp only at hSw); go_simp; try with_reducible rfl)
          try simp only [Act.put]
          refine hT (v := ?_) 2 rfl (by assumption) ?_ ?_
          rotate_left
          · (intro wS hSw; (try dsimp only at hSw); go_simp; try with_reducible rfl)
          try simp only [Act.put]
          refine hT (v := ?_) 3 rfl (by assumption) ?_ ?_
          rotate_left
          · (intro wS hSw; (try dsimp only at hSw); go_simp; try with_reducible rfl)
          try simp only [Act.put]
          refine hT (v := ?_) 5 rfl (by assumption) ?_ ?_
          rotate_left
          · (intro wS hSw; (try dsimp only at hSw); go_simp; try with_reducible rfl)
          try simp only [Act.put]
          refine hT (v := ?_) 6 rfl (by assumption) ?_ ?_
          rotate_left
          · (intro wS hSw; (try dsimp only at hSw); go_simp; try with_reducible rfl)
          try simp only [Act.put]
          refine hT (v := ?_) 7 rfl (by assumption) ?_ ?_
          rotate_left
          · (intro wS hSw; (try dsimp only at hSw); go_simp; try with_reducible rfl)
          try simp only [Act.put]
          refine hT (v := ?_) 8 rfl (by assumption) ?_ ?_
          rotate_left
          · (intro wS hSw; (try dsimp only at hSw); go_simp; try with_reducible rfl)
          try simp only [Act.put]
          refine hT (v := ?_) 9 rfl (by assumption) ?_ ?_
          rotate_left
          · (intro wS hSw; (try dsimp only at hSw); go_simp; try with_reducible rfl)
          try simp only [Act.put]
          refine hT (v := ?_) 11 rfl (by assumption) ?_ ?_
          rotate_left
          · (intro wS hSw; (try dsimp only at hSw); go_simp; try with_reducible rfl)
          try simp only [Act.put]
          refine hT (v := ?_) 12 rfl (by assumption) ?_ ?_
          rotate_left
          · (intro wS hSw; (try dsimp only at hSw); go_simp; try with_reducible rfl)
          try simp only [Act.put]
          refine hT (v := ?_) 13 rfl (by assumption) ?_ ?_
          rotate_left
          · (intro wS hSw; (try dsimp only at hSw); go_simp; try with_reducible rfl)
          try simp only [Act.put]
          refine hT (v := ?_) 14 rfl (by assumption) ?_ ?_
          rotate_left
          · (intro wS hSw; (try dsimp only at hSw); go_simp; try with_reducible rfl)
          try simp only [Act.put]
          refine hT (v := ?_) 15 rfl (by assumption) ?_ ?_
          rotate_left
          · (intro wS hSw; (try dsimp only at hSw); go_simp; try with_reducible rfl)
          try simp only [Act.put]
          refine hT (v := ?_) 16 rfl (by assumption) ?_ ?_
          rotate_left
          · (intro wS hSw; (try dsimp only at hSw); go_simp; try with_reducible rfl)
          try simp only [Act.put]
          refine wpAnyH_ready (rs := [4, 10]) (by kernel_rfl) (by simp) (AllReadyH.cons (o := _) rfl (fun K hK => ?b1y1x4) (AllReadyH.cons (o := _) rfl (fun K hK => ?b1y1x10) AllReadyH.nil))
          case' b1y1x4 =>
            go_simp
            refine hK.out _ _ ?_ (fun hHeld => ?_)
            · ((try dsimp only); (first | go_keep | exact (HQ.out _ HBW.out).1 | exact (HQ.out _ (HBA.out _)).1 | exact s3 | exact s4 _))
            clear hK K; try simp only [Act.put, List.setIfInBounds_toArray, List.set_cons_zero, List.set_cons_succ]
            refine wpAnyH_ready (rs := [10]) (by kernel_rfl) (by simp) (AllReadyH.cons (o := _) rfl (fun K hK => ?b1y2x10) AllReadyH.nil)
            go_simp; go_at_call 135; refine (hcopy.out _ (below_drew1 (Below.refl _ _))).mono ?_; rintro e w2 ⟨v2, rfl, ho2, hb2⟩; obtain ⟨a2, c2', rfl, _⟩ := own_shape ho2; have HO2 : Hid (w2.ownsRow wr.heap.size 5 1 (.slice a2 n c2') n (bs.map B8)) := Lib.hid ho2; have HBW : Hid (Below wr.heap.size wr w2) := Lib.hid ⟨hb2.os, hb2.tape, hb2.output, hb2.size, hb2.block⟩; have hs2 : wr.heap.size ≤ w2.heap.size := hb2.size; have HBA : Hid (∀ o, Below wr.heap.size wr (w2.alloc o)) := Lib.hid (fun o => HBW.out.alloc hs2 o); have q1 : w2.cell? ⟨p, 1, none⟩ = some (.slice ab k cb) := (HQ.out _ HBW.out).2; have hpl2 : p < w2.heap.size := (by omega); clear ho2 hb2
            refine hK.out _ _ ?_ (fun hHeld => ?_)
            · ((try dsimp only); (first | go_keep | exact (HQ.out _ HBW.out).1 | exact (HQ.out _ (HBA.out _)).1 | exact s3 | exact s4 _))
            clear hK K; try simp only [Act.put, List.setIfInBounds_toArray, List.set_cons_zero, List.set_cons_succ]
            refine hT (v := ?_) 17 rfl (by assumption) ?_ ?_
            rotate_left
            · (intro wS hSw; (try dsimp only at hSw); go_simp; try with_reducible rfl)
            try simp only [Act.put, List.setIfInBounds_toArray]
            refine wpAnyH_ready (rs := [18]) (by kernel_rfl) (by simp) (AllReadyH.cons (o := _) rfl (fun K hK => ?b1y3x18) AllReadyH.nil)
            go_simp
            refine hK.out _ _ ?_ (fun hHeld => ?_)
            · ((try dsimp only); (first | go_keep | exact (HQ.out _ HBW.out).1 | exact (HQ.out _ (HBA.out _)).1 | exact s3 | exact s4 _))
            clear hK K; try simp only [Act.put, List.setIfInBounds_toArray, List.set_cons_zero, List.set_cons_succ]
            refine wpAnyH_ready (rs := [19]) (by kernel_rfl) (by simp) (AllReadyH.cons (o := _) rfl (fun K hK => ?b1y4x19) AllReadyH.nil)
            (refine step_append_any _ rfl (.tmp 61) (.tmp 75) 222 rfl 0 229 i0 _ 2 32 Tryz.underlying222 hi0 hz0 hz1 hz2 rfl (by omega) (.slice ab k cb) k _ rfl ((ownsRow_below HBO.out HBW.out).alloc _) (w2.heap.size + 1) (some ⟨w2.heap.size, 0, none⟩) 1 1 [.slice a2 n c2', .int .i64 n] rfl (by exact reads_blk (t := 229) (blk_last _ _ _ _ rfl) (by omega) rfl) (by intro u hu; simp at hu; rcases hu with rfl | rfl <;> rfl) (by simp only [maxLen]; omega) (by omega) (Nat.zero_le _) ?_); intro v3 w3 hown3 hg3 hat3; obtain ⟨a4, c4, rfl, _⟩ := own_shape hown3; go_must (have hr3 := (ownsRow_below HBO.out HBW.out).alloc (.cells #[.slice a2 n c2', .int .i64 n] 229); have hb3 := blk_grown ((HLDA.out.at_.head.below HBW.out hpl).alloc (.cells #[.slice a2 n c2', .int .i64 n] 229)) hr3 hg3 (by decide); have hb3w : Below w.heap.size w w3 := ((HBK.out.trans (HBW.out.mono hszk)).alloc (by omega) _).grown hg3 (by rw [alloc_size]; omega) (fun q hq => HLDA.out.foot q (.inr (.inl (by rw [HVB.out]; exact hq)))); have s3 : w3.cell? ⟨gA, oA + k * 2 + 1, none⟩ = some (.slice a n cf) := (hb3w.cell (p := ⟨gA, oA + k * 2 + 1, none⟩) hgAl).trans HW1.out; clear hb3w; have s4 : ∀ u, (w3.setCell ⟨p, 1, none⟩ u).cell? ⟨gA, oA + k * 2 + 1, none⟩ = some (.slice a n cf) := (fun u => (World.cell?_setCell_other w3 ⟨p, 1, none⟩ ⟨gA, oA + k * 2 + 1, none⟩ u (fun e => hgp (by first | exact congrArg Addr.block e | exact (congrArg Addr.block e).symm))).trans s3); have f1 : w3.cell? ⟨p, 1, none⟩ = some Lk.vb := hb3.cell 1; have f1f : w3.frozen? ⟨p, 1, none⟩ = false := hb3.frozen 1; have HMID := Lib.hid (bod_mid (B := ⟨bs, n⟩) HLDA.out.at_ HLDA.out.foot HVB.out HBL.out.symm HBW.out hszk (by show w2.ownsRow _ _ _ _ bs.length _; rw [← HN.out]; exact ownsRow_base_a HO2.out hszk) hb3 hr3 hown3 hg3 hat3); clear hr3 hb3 hown3 hg3 hat3)
            refine hK.out _ _ ?_ (fun hHeld => ?_)
            · ((try dsimp only); (first | go_keep | exact (HQ.out _ HBW.out).1 | exact (HQ.out _ (HBA.out _)).1 | exact s3 | exact s4 _))
            clear hK K; try simp only [Act.put, List.setIfInBounds_toArray]
            refine hT (v := ?_) 20 rfl (by assumption) ?_ ?_
            rotate_left
            · (intro wS hSw; (try dsimp only at hSw); go_simp; try with_reducible rfl)
            try simp only [Act.put]
            refine hT (v := ?_) 21 rfl (by assumption) ?_ ?_
            rotate_left
            · (intro wS hSw; (try dsimp only at hSw); go_simp; try with_reducible rfl)
            try simp only [Act.put]
            refine wpAnyH_ready (rs := [22]) (by kernel_rfl) (by simp) (AllReadyH.cons (o := _) rfl (fun K hK => ?b1y5x22) AllReadyH.nil)
            go_simp
            refine hK.out _ _ ?_ (fun hHeld => ?_)
            · ((try dsimp only); (first | go_keep | exact (HQ.out _ HBW.out).1 | exact (HQ.out _ (HBA.out _)).1 | exact s3 | exact s4 _))
            clear hK K; try simp only [Act.put, List.setIfInBounds_toArray, List.set_cons_zero, List.set_cons_succ]
            refine wpAnyH_done (by kernel_rfl) ?_ _
          case' b1y1x10 =>
            go_simp; go_at_call 135; refine (hcopy.out _ (below_drew1 (Below.refl _ _))).mono ?_; rintro e w2 ⟨v2, rfl, ho2, hb2⟩; obtain ⟨a2, c2', rfl, _⟩ := own_shape ho2; have HO2 : Hid (w2.ownsRow wr.heap.size 5 1 (.slice a2 n c2') n (bs.map B8)) := Lib.hid ho2; have HBW : Hid (Below wr.heap.size wr w2) := Lib.hid ⟨hb2.os, hb2.tape, hb2.output, hb2.size, hb2.block⟩; have hs2 : wr.heap.size ≤ w2.heap.size := hb2.size; have HBA : Hid (∀ o, Below wr.heap.size wr (w2.alloc o)) := Lib.hid (fun o => HBW.out.alloc hs2 o); have q1 : w2.cell? ⟨p, 1, none⟩ = some (.slice ab k cb) := (HQ.out _ HBW.out).2; have hpl2 : p < w2.heap.size := (by omega); clear ho2 hb2
            refine hK.out _ _ ?_ (fun hHeld => ?_)
            · ((try dsimp only); (first | go_keep | exact (HQ.out _ HBW.out).1 | exact (HQ.out _ (HBA.out _)).1 | exact s3 | exact s4 _))
            clear hK K; try simp only [Act.put, List.setIfInBounds_toArray, List.set_cons_zero, List.set_cons_succ]
            refine hT (v := ?_) 17 rfl (by assumption) ?_ ?_
            rotate_left
            · (intro wS hSw; (try dsimp only at hSw); go_simp; try with_reducible rfl)
            try simp only [Act.put, List.setIfInBounds_toArray]
            refine wpAnyH_ready (rs := [4, 18]) (by kernel_rfl) (by simp) (AllReadyH.cons (o := _) rfl (fun K hK => ?b1y6x4) (AllReadyH.cons (o := _) rfl (fun K hK => ?b1y6x18) AllReadyH.nil))
            case' b1y6x4 =>
              go_simp
              refine hK.out _ _ ?_ (fun hHeld => ?_)
              · ((try dsimp only); (first | go_keep | exact (HQ.out _ HBW.out).1 | exact (HQ.out _ (HBA.out _)).1 | exact s3 | exact s4 _))
              clear hK K; try simp only [Act.put, List.setIfInBounds_toArray, List.set_cons_zero, List.set_cons_succ]
              refine wpAnyH_ready (rs := [18]) (by kernel_rfl) (by simp) (AllReadyH.cons (o := _) rfl (fun K hK => ?b1y7x18) AllReadyH.nil)
              go_simp
              refine hK.out _ _ ?_ (fun hHeld => ?_)
              · ((try dsimp only); (first | go_keep | exact (HQ.out _ HBW.out).1 | exact (HQ.out _ (HBA.out _)).1 | exact s3 | exact s4 _))
              clear hK K; try simp only [Act.put, List.setIfInBounds_toArray, List.set_cons_zero, List.set_cons_succ]
              refine wpAnyH_ready (rs := [19]) (by kernel_rfl) (by simp) (AllReadyH.cons (o := _) rfl (fun K hK => ?b1y8x19) AllReadyH.nil)
              (refine step_append_any _ rfl (.tmp 61) (.tmp 75) 222 rfl 0 229 i0 _ 2 32 Tryz.underlying222 hi0 hz0 hz1 hz2 rfl (by omega) (.slice ab k cb) k _ rfl ((ownsRow_below HBO.out HBW.out).alloc _) (w2.heap.size + 1) (some ⟨w2.heap.size, 0, none⟩) 1 1 [.slice a2 n c2', .int .i64 n] rfl (by exact reads_blk (t := 229) (blk_last _ _ _ _ rfl) (by omega) rfl) (by intro u hu; simp at hu; rcases hu with rfl | rfl <;> rfl) (by simp only [maxLen]; omega) (by omega) (Nat.zero_le _) ?_); intro v3 w3 hown3 hg3 hat3; obtain ⟨a4, c4, rfl, _⟩ := own_shape hown3; go_must (have hr3 := (ownsRow_below HBO.out HBW.out).alloc (.cells #[.slice a2 n c2', .int .i64 n] 229); have hb3 := blk_grown ((HLDA.out.at_.head.below HBW.out hpl).alloc (.cells #[.slice a2 n c2', .int .i64 n] 229)) hr3 hg3 (by decide); have hb3w : Below w.heap.size w w3 := ((HBK.out.trans (HBW.out.mono hszk)).alloc (by omega) _).grown hg3 (by rw [alloc_size]; omega) (fun q hq => HLDA.out.foot q (.inr (.inl (by rw [HVB.out]; exact hq)))); have s3 : w3.cell? ⟨gA, oA + k * 2 + 1, none⟩ = some (.slice a n cf) := (hb3w.cell (p := ⟨gA, oA + k * 2 + 1, none⟩) hgAl).trans HW1.out; clear hb3w; have s4 : ∀ u, (w3.setCell ⟨p, 1, none⟩ u).cell? ⟨gA, oA + k * 2 + 1, none⟩ = some (.slice a n cf) := (fun u => (World.cell?_setCell_other w3 ⟨p, 1, none⟩ ⟨gA, oA + k * 2 + 1, none⟩ u (fun e => hgp (by first | exact congrArg Addr.block e | exact (congrArg Addr.block e).symm))).trans s3); have f1 : w3.cell? ⟨p, 1, none⟩ = some Lk.vb := hb3.cell 1; have f1f : w3.frozen? ⟨p, 1, none⟩ = false := hb3.frozen 1; have HMID := Lib.hid (bod_mid (B := ⟨bs, n⟩) HLDA.out.at_ HLDA.out.foot HVB.out HBL.out.symm HBW.out hszk (by show w2.ownsRow _ _ _ _ bs.length _; rw [← HN.out]; exact ownsRow_base_a HO2.out hszk) hb3 hr3 hown3 hg3 hat3); clear hr3 hb3 hown3 hg3 hat3)
              refine hK.out _ _ ?_ (fun hHeld => ?_)
              · ((try dsimp only); (first | go_keep | exact (HQ.out _ HBW.out).1 | exact (HQ.out _ (HBA.out _)).1 | exact s3 | exact s4 _))
              clear hK K; try simp only [Act.put, List.setIfInBounds_toArray]
              refine hT (v := ?_) 20 rfl (by assumption) ?_ ?_
              rotate_left
              · (intro wS hSw; (try dsimp only at hSw); go_simp; try with_reducible rfl)
              try simp only [Act.put]
              refine hT (v := ?_) 21 rfl (by assumption) ?_ ?_
              rotate_left
              · (intro wS hSw; (try dsimp only at hSw); go_simp; try with_reducible rfl)
              try simp only [Act.put]
              refine wpAnyH_ready (rs := [22]) (by kernel_rfl) (by simp) (AllReadyH.cons (o := _) rfl (fun K hK => ?b1y9x22) AllReadyH.nil)
              go_simp
              refine hK.out _ _ ?_ (fun hHeld => ?_)
              · ((try dsimp only); (first | go_keep | exact (HQ.out _ HBW.out).1 | exact (HQ.out _ (HBA.out _)).1 | exact s3 | exact s4 _))
              clear hK K; try simp only [Act.put, List.setIfInBounds_toArray, List.set_cons_zero, List.set_cons_succ]
              refine wpAnyH_done (by kernel_rfl) ?_ _
            case' b1y6x18 =>
              go_simp
              refine hK.out _ _ ?_ (fun hHeld => ?_)
              · ((try dsimp only); (first | go_keep | exact (HQ.out _ HBW.out).1 | exact (HQ.out _ (HBA.out _)).1 | exact s3 | exact s4 _))
              clear hK K; try simp only [Act.put, List.setIfInBounds_toArray, List.set_cons_zero, List.set_cons_succ]
              refine wpAnyH_ready (rs := [4]) (by kernel_rfl) (by simp) (AllReadyH.cons (o := _) rfl (fun K hK => ?b1y10x4) AllReadyH.nil)
              go_simp
              refine hK.out _ _ ?_ (fun hHeld => ?_)
              · ((try dsimp only); (first | go_keep | exact (HQ.out _ HBW.out).1 | exact (HQ.out _ (HBA.out _)).1 | exact s3 | exact s4 _))
              clear hK K; try simp only [Act.put, List.setIfInBounds_toArray, List.set_cons_zero, List.set_cons_succ]
              refine wpAnyH_ready (rs := [19]) (by kernel_rfl) (by simp) (AllReadyH.cons (o := _) rfl (fun K hK => ?b1y11x19) AllReadyH.nil)
              (refine step_append_any _ rfl (.tmp 61) (.tmp 75) 222 rfl 0 229 i0 _ 2 32 Tryz.underlying222 hi0 hz0 hz1 hz2 rfl (by omega) (.slice ab k cb) k _ rfl ((ownsRow_below HBO.out HBW.out).alloc _) (w2.heap.size + 1) (some ⟨w2.heap.size, 0, none⟩) 1 1 [.slice a2 n c2', .int .i64 n] rfl (by exact reads_blk (t := 229) (blk_last _ _ _ _ rfl) (by omega) rfl) (by intro u hu; simp at hu; rcases hu with rfl | rfl <;> rfl) (by simp only [maxLen]; omega) (by omega) (Nat.zero_le _) ?_); intro v3 w3 hown3 hg3 hat3; obtain ⟨a4, c4, rfl, _⟩ := own_shape hown3; go_must (have hr3 := (ownsRow_below HBO.out HBW.out).alloc (.cells #[.slice a2 n c2', .int .i64 n] 229); have hb3 := blk_grown ((HLDA.out.at_.head.below HBW.out hpl).alloc (.cells #[.slice a2 n c2', .int .i64 n] 229)) hr3 hg3 (by decide); have hb3w : Below w.heap.size w w3 := ((HBK.out.trans (HBW.out.mono hszk)).alloc (by omega) _).grown hg3 (by rw [alloc_size]; omega) (fun q hq => HLDA.out.foot q (.inr (.inl (by rw [HVB.out]; exact hq)))); have s3 : w3.cell? ⟨gA, oA + k * 2 + 1, none⟩ = some (.slice a n cf) := (hb3w.cell (p := ⟨gA, oA + k * 2 + 1, none⟩) hgAl).trans HW1.out; clear hb3w; have s4 : ∀ u, (w3.setCell ⟨p, 1, none⟩ u).cell? ⟨gA, oA + k * 2 + 1, none⟩ = some (.slice a n cf) := (fun u => (World.cell?_setCell_other w3 ⟨p, 1, none⟩ ⟨gA, oA + k * 2 + 1, none⟩ u (fun e => hgp (by first | exact congrArg Addr.block e | exact (congrArg Addr.block e).symm))).trans s3); have f1 : w3.cell? ⟨p, 1, none⟩ = some Lk.vb := hb3.cell 1; have f1f : w3.frozen? ⟨p, 1, none⟩ = false := hb3.frozen 1; have HMID := Lib.hid (bod_mid (B := ⟨bs, n⟩) HLDA.out.at_ HLDA.out.foot HVB.out HBL.out.symm HBW.out hszk (by show w2.ownsRow _ _ _ _ bs.length _; rw [← HN.out]; exact ownsRow_base_a HO2.out hszk) hb3 hr3 hown3 hg3 hat3); clear hr3 hb3 hown3 hg3 hat3)
              refine hK.out _ _ ?_ (fun hHeld => ?_)
              · ((try dsimp only); (first | go_keep | exact (HQ.out _ HBW.out).1 | exact (HQ.out _ (HBA.out _)).1 | exact s3 | exact s4 _))
              clear hK K; try simp only [Act.put, List.setIfInBounds_toArray]
              refine hT (v := ?_) 20 rfl (by assumption) ?_ ?_
              rotate_left
              · (intro wS hSw; (try dsimp only at hSw); go_simp; try with_reducible rfl)
              try simp only [Act.put]
              refine hT (v := ?_) 21 rfl (by assumption) ?_ ?_
              rotate_left
              · (intro wS hSw; (try dsimp only at hSw); go_simp; try with_reducible rfl)
              try simp only [Act.put]
              refine wpAnyH_ready (rs := [22]) (by kernel_rfl) (by simp) (AllReadyH.cons (o := _) rfl (fun K hK => ?b1y12x22) AllReadyH.nil)
              go_simp
              refine hK.out _ _ ?_ (fun hHeld => ?_)
              · ((try dsimp only); (first | go_keep | exact (HQ.out _ HBW.out).1 | exact (HQ.out _ (HBA.out _)).1 | exact s3 | exact s4 _))
              clear hK K; try simp only [Act.put, List.setIfInBounds_toArray, List.set_cons_zero, List.set_cons_succ]
              refine wpAnyH_done (by kernel_rfl) ?_ _
          all_goals (
            refine exit_world fun X hX => ?_
            have hM4 : MdAt X p { S with bodies := S.bodies ++ [⟨bs, n⟩] } { Lk with vb := .slice a4 (k + 1) c4, dat := Lk.dat ++ [.slice a2 n c2'] } := by rw [hX]; exact HMID.out.1
            have HF4 : Hid (∀ j, ({ Lk with vb := .slice a4 (k + 1) c4, dat := Lk.dat ++ [.slice a2 n c2'] } : MLay).foot p j → w.heap.size ≤ j) := Lib.hid HMID.out.2.1
            have hBX : Below w.heap.size w X := by rw [hX]; exact (HBK.out.trans (HBW.out.mono hszk)).trans HMID.out.2.2
            have d2 : X.cell? ⟨p, 2, none⟩ = some (.slice an k cn) := by have := hM4.head.cell 2; rw [this]; show some Lk.vn = _; rw [HVN.out]
            have HNR : Hid (X.ownsRow 0 221 2 (.slice an k cn) k (entCells (dents S.now))) := Lib.hid (by have := hM4.rows.now; rw [show ({ Lk with vb := .slice a4 (k + 1) c4, dat := Lk.dat ++ [.slice a2 n c2'] } : MLay).vn = Lk.vn from rfl, HVN.out] at this; rw [HDL.out] at this; exact this)
            have hplX : p < X.heap.size := hM4.head.lt
            have hszX := hBX.size
            have HM4 := Lib.hid hM4
            have HBX := Lib.hid hBX
            clear hX hM4 hBX f1 f1f c1 c2 q1 hpl2 hs2 s3 s4
            go_wp2_with (at_builtin; go_must (refine wpList_append_any _ rfl (.tmp 84) (.tmp 88) 223 rfl 0 221 iE _ 2 24 Tryz.underlying223 hiE hy0 hy1 hy2 rfl (by omega) (.slice an k cn) k _ rfl (HNR.out.alloc _) (X.heap.size + 1) (some ⟨X.heap.size, 0, none⟩) 1 1 [.string ⟨nm.toArray⟩, .int .i64 k] rfl (by exact reads_blk (t := 221) (blk_last _ _ _ _ rfl) (by omega) rfl) (by intro u hu; simp at hu; rcases hu with rfl | rfl <;> rfl) (by simp only [maxLen]; omega) (by omega) (Nat.zero_le _) ?_); intro v5 w5 hown5 hg5 hat5; obtain ⟨a5, c5, rfl, _⟩ := own_shape hown5; go_must (have hr5 := HNR.out.alloc (.cells #[.string ⟨nm.toArray⟩, .int .i64 k] 221); have hb5 := blk_grown (HM4.out.head.alloc (.cells #[.string ⟨nm.toArray⟩, .int .i64 k] 221)) hr5 hg5 (by decide); have g2 : w5.cell? ⟨p, 2, none⟩ = some Lk.vn := hb5.cell 2; have g2f : w5.frozen? ⟨p, 2, none⟩ = false := hb5.frozen 2; have HEND := Lib.hid (now_mid (D := S.now.put (key nm) (num k)) HM4.out HF4.out HVN.out HPD.out HKP.out HLDA.out.vk HDL.out hszX ((Ents.snoc (dents_ents HSO.out) HSO.out.tidy HALL.out k).dents (HSO.out.put (named_len HND.out) k)).symm hb5 hr5 hown5 hg5 hat5); clear hr5 hb5 hown5 hg5 hat5))
            go_roundw
            case rel =>
              exact ⟨k + 1, by omega, by go_num, ⟨_, by rw [HLK.out]; exact HEND.out.1⟩, HBX.out.trans HEND.out.2, Lib.hid (HGO.out HND.out HNH.out)⟩
            case measure => simp [intOf]; omega)
        · have hkz : ((k : Int) == 0) = false := by simpa using hk0
          obtain ⟨⟨t, i⟩, hti⟩ : ∃ x, (dents S.now)[k - 1]? = some x := ⟨_, List.getElem?_eq_getElem (by rw [HDL.out]; omega)⟩
          have hrow := HLDA.out.at_.rows.now
          rw [HVN.out] at hrow
          rw [HDL.out] at hrow
          obtain ⟨b, rfl, hbl, y1, y2⟩ := row_pair hrow hti HDL.out
          simp only [strV] at y1
          have hk1 : 1 ≤ k := by omega
          have HTI := Lib.hid hti
          clear hk0 hti hrow y2
          cases hbz : Op.bytesLess t nm with
          | true =>
            have hall : ∀ e ∈ dents S.now, e.1 < nm := last_all (dents_ents HSO.out).rise HTI.out HDL.out hk1 (by rw [bytesLess_eq] at hbz; exact of_decide_eq_true hbz)
            have HALL := Lib.hid hall
            have HNH : Hid (has S.now (key nm) = false) := Lib.hid (no_has HSO.out hall)
            clear hall
            go_wp2_with (go_at_call 133; refine (HNMV.out _).mono ?_; rintro e w' ⟨rfl, rfl⟩)
            refine wp_region_held_drew (S := (fun w' => w'.cell? ⟨gA, oA + k * 2 + 1, none⟩ = some (.slice a n cf))) (by kernel_rfl) ?_ (fun hHeld => ?_)
            · ((try dsimp only); (first | go_keep | exact (HQ.out _ HBW.out).1 | exact (HQ.out _ (HBA.out _)).1 | exact s3 | exact s4 _))
            refine hT (v := ?_) 0 rfl (by assumption) ?_ ?_
            rotate_left
            · (intro wS hSw; (try dsimp only at hSw); go_simp; try with_reducible rfl)
            try simp only [Act.put, List.setIfInBounds_toArray]
            refine hT (v := ?_) 1 rfl (by assumption) ?_ ?_
            rotate_left
            · (intro wS hSw; (try dsimp only at hSw); go_simp; try with_reducible rfl)
            try simp only [Act.put]
            refine hT (v := ?_) 2 rfl (by assumption) ?_ ?_
            rotate_left
            · (intro wS hSw; (try dsimp only at hSw); go_simp; try with_reducible rfl)
            try simp only [Act.put]
            refine hT (v := ?_) 3 rfl (by assumption) ?_ ?_
            rotate_left
            · (intro wS hSw; (try dsimp only at hSw); go_simp; try with_reducible rfl)
            try simp only [Act.put]
            refine hT (v := ?_) 5 rfl (by assumption) ?_ ?_
            rotate_left
            · (intro wS hSw; (try dsimp only at hSw); go_simp; try with_reducible rfl)
            try simp only [Act.put]
            refine hT (v := ?_) 6 rfl (by assumption) ?_ ?_
            rotate_left
            · (intro wS hSw; (try dsimp only at hSw); go_simp; try with_reducible rfl)
            try simp only [Act.put]
            refine hT (v := ?_) 7 rfl (by assumption) ?_ ?_
            rotate_left
            · (intro wS hSw; (try dsimp only at hSw); go_simp; try with_reducible rfl)
            try simp only [Act.put]
            refine hT (v := ?_) 8 rfl (by assumption) ?_ ?_
            rotate_left
            · (intro wS hSw; (try dsimp only at hSw); go_simp; try with_reducible rfl)
            try simp only [Act.put]
            refine hT (v := ?_) 9 rfl (by assumption) ?_ ?_
            rotate_left
            · (intro wS hSw; (try dsimp only at hSw); go_simp; try with_reducible rfl)
            try simp only [Act.put]
            refine hT (v := ?_) 11 rfl (by assumption) ?_ ?_
            rotate_left
            · (intro wS hSw; (try dsimp only at hSw); go_simp; try with_reducible rfl)
            try simp only [Act.put]
            refine hT (v := ?_) 12 rfl (by assumption) ?_ ?_
            rotate_left
            · (intro wS hSw; (try dsimp only at hSw); go_simp; try with_reducible rfl)
            try simp only [Act.put]
            refine hT (v := ?_) 13 rfl (by assumption) ?_ ?_
            rotate_left
            · (intro wS hSw; (try dsimp only at hSw); go_simp; try with_reducible rfl)
            try simp only [Act.put]
            refine hT (v := ?_) 14 rfl (by assumption) ?_ ?_
            rotate_left
            · (intro wS hSw; (try dsimp only at hSw); go_simp; try with_reducible rfl)
            try simp only [Act.put]
            refine hT (v := ?_) 15 rfl (by assumption) ?_ ?_
            rotate_left
            · (intro wS hSw; (try dsimp only at hSw); go_simp; try with_reducible rfl)
            try simp only [Act.put]
            refine hT (v := ?_) 16 rfl (by assumption) ?_ ?_
            rotate_left
            · (intro wS hSw; (try dsimp only at hSw); go_simp; try with_reducible rfl)
            try simp only [Act.put]
            refine wpAnyH_ready (rs := [4, 10]) (by kernel_rfl) (by simp) (AllReadyH.cons (o := _) rfl (fun K hK => ?b2y1x4) (AllReadyH.cons (o := _) rfl (fun K hK => ?b2y1x10) AllReadyH.nil))
            case' b2y1x4 =>
              go_simp
              refine hK.out _ _ ?_ (fun hHeld => ?_)
              · ((try dsimp only); (first | go_keep | exact (HQ.out _ HBW.out).1 | exact (HQ.out _ (HBA.out _)).1 | exact s3 | exact s4 _))
              clear hK K; try simp only [Act.put, List.setIfInBounds_toArray, List.set_cons_zero, List.set_cons_succ]
              refine wpAnyH_ready (rs := [10]) (by kernel_rfl) (by simp) (AllReadyH.cons (o := _) rfl (fun K hK => ?b2y2x10) AllReadyH.nil)
              go_simp; go_at_call 135; refine (hcopy.out _ (below_drew1 (Below.refl _ _))).mono ?_; rintro e w2 ⟨v2, rfl, ho2, hb2⟩; obtain ⟨a2, c2', rfl, _⟩ := own_shape ho2; have HO2 : Hid (w2.ownsRow wr.heap.size 5 1 (.slice a2 n c2') n (bs.map B8)) := Lib.hid ho2; have HBW : Hid (Below wr.heap.size wr w2) := Lib.hid ⟨hb2.os, hb2.tape, hb2.output, hb2.size, hb2.block⟩; have hs2 : wr.heap.size ≤ w2.heap.size := hb2.size; have HBA : Hid (∀ o, Below wr.heap.size wr (w2.alloc o)) := Lib.hid (fun o => HBW.out.alloc hs2 o); have q1 : w2.cell? ⟨p, 1, none⟩ = some (.slice ab k cb) := (HQ.out _ HBW.out).2; have hpl2 : p < w2.heap.size := (by omega); clear ho2 hb2
              refine hK.out _ _ ?_ (fun hHeld => ?_)
              · ((try dsimp only); (first | go_keep | exact (HQ.out _ HBW.out).1 | exact (HQ.out _ (HBA.out _)).1 | exact s3 | exact s4 _))
              clear hK K; try simp only [Act.put, List.setIfInBounds_toArray, List.set_cons_zero, List.set_cons_succ]
              refine hT (v := ?_) 17 rfl (by assumption) ?_ ?_
              rotate_left
              · (intro wS hSw; (try dsimp only at hSw); go_simp; try with_reducible rfl)
              try simp only [Act.put, List.setIfInBounds_toArray]
              refine wpAnyH_ready (rs := [18]) (by kernel_rfl) (by simp) (AllReadyH.cons (o := _) rfl (fun K hK => ?b2y3x18) AllReadyH.nil)
              go_simp
              refine hK.out _ _ ?_ (fun hHeld => ?_)
              · ((try dsimp only); (first | go_keep | exact (HQ.out _ HBW.out).1 | exact (HQ.out _ (HBA.out _)).1 | exact s3 | exact s4 _))
              clear hK K; try simp only [Act.put, List.setIfInBounds_toArray, List.set_cons_zero, List.set_cons_succ]
              refine wpAnyH_ready (rs := [19]) (by kernel_rfl) (by simp) (AllReadyH.cons (o := _) rfl (fun K hK => ?b2y4x19) AllReadyH.nil)
              (refine step_append_any _ rfl (.tmp 61) (.tmp 75) 222 rfl 0 229 i0 _ 2 32 Tryz.underlying222 hi0 hz0 hz1 hz2 rfl (by omega) (.slice ab k cb) k _ rfl ((ownsRow_below HBO.out HBW.out).alloc _) (w2.heap.size + 1) (some ⟨w2.heap.size, 0, none⟩) 1 1 [.slice a2 n c2', .int .i64 n] rfl (by exact reads_blk (t := 229) (blk_last _ _ _ _ rfl) (by omega) rfl) (by intro u hu; simp at hu; rcases hu with rfl | rfl <;> rfl) (by simp only [maxLen]; omega) (by omega) (Nat.zero_le _) ?_); intro v3 w3 hown3 hg3 hat3; obtain ⟨a4, c4, rfl, _⟩ := own_shape hown3; go_must (have hr3 := (ownsRow_below HBO.out HBW.out).alloc (.cells #[.slice a2 n c2', .int .i64 n] 229); have hb3 := blk_grown ((HLDA.out.at_.head.below HBW.out hpl).alloc (.cells #[.slice a2 n c2', .int .i64 n] 229)) hr3 hg3 (by decide); have hb3w : Below w.heap.size w w3 := ((HBK.out.trans (HBW.out.mono hszk)).alloc (by omega) _).grown hg3 (by rw [alloc_size]; omega) (fun q hq => HLDA.out.foot q (.inr (.inl (by rw [HVB.out]; exact hq)))); have s3 : w3.cell? ⟨gA, oA + k * 2 + 1, none⟩ = some (.slice a n cf) := (hb3w.cell (p := ⟨gA, oA + k * 2 + 1, none⟩) hgAl).trans HW1.out; clear hb3w; have s4 : ∀ u, (w3.setCell ⟨p, 1, none⟩ u).cell? ⟨gA, oA + k * 2 + 1, none⟩ = some (.slice a n cf) := (fun u => (World.cell?_setCell_other w3 ⟨p, 1, none⟩ ⟨gA, oA + k * 2 + 1, none⟩ u (fun e => hgp (by first | exact congrArg Addr.block e | exact (congrArg Addr.block e).symm))).trans s3); have f1 : w3.cell? ⟨p, 1, none⟩ = some Lk.vb := hb3.cell 1; have f1f : w3.frozen? ⟨p, 1, none⟩ = false := hb3.frozen 1; have HMID := Lib.hid (bod_mid (B := ⟨bs, n⟩) HLDA.out.at_ HLDA.out.foot HVB.out HBL.out.symm HBW.out hszk (by show w2.ownsRow _ _ _ _ bs.length _; rw [← HN.out]; exact ownsRow_base_a HO2.out hszk) hb3 hr3 hown3 hg3 hat3); clear hr3 hb3 hown3 hg3 hat3)
              refine hK.out _ _ ?_ (fun hHeld => ?_)
              · ((try dsimp only); (first | go_keep | exact (HQ.out _ HBW.out).1 | exact (HQ.out _ (HBA.out _)).1 | exact s3 | exact s4 _))
              clear hK K; try simp only [Act.put, List.setIfInBounds_toArray]
              refine hT (v := ?_) 20 rfl (by assumption) ?_ ?_
              rotate_left
              · (intro wS hSw; (try dsimp only at hSw); go_simp; try with_reducible rfl)
              try simp only [Act.put]
              refine hT (v := ?_) 21 rfl (by assumption) ?_ ?_
              rotate_left
              · (intro wS hSw; (try dsimp only at hSw); go_simp; try with_reducible rfl)
              try simp only [Act.put]
              refine wpAnyH_ready (rs := [22]) (by kernel_rfl) (by simp) (AllReadyH.cons (o := _) rfl (fun K hK => ?b2y5x22) AllReadyH.nil)
              go_simp
              refine hK.out _ _ ?_ (fun hHeld => ?_)
              · ((try dsimp only); (first | go_keep | exact (HQ.out _ HBW.out).1 | exact (HQ.out _ (HBA.out _)).1 | exact s3 | exact s4 _))
              clear hK K; try simp only [Act.put, List.setIfInBounds_toArray, List.set_cons_zero, List.set_cons_succ]
              refine wpAnyH_done (by kernel_rfl) ?_ _
            case' b2y1x10 =>
              go_simp; go_at_call 135; refine (hcopy.out _ (below_drew1 (Below.refl _ _))).mono ?_; rintro e w2 ⟨v2, rfl, ho2, hb2⟩; obtain ⟨a2, c2', rfl, _⟩ := own_shape ho2; have HO2 : Hid (w2.ownsRow wr.heap.size 5 1 (.slice a2 n c2') n (bs.map B8)) := Lib.hid ho2; have HBW : Hid (Below wr.heap.size wr w2) := Lib.hid ⟨hb2.os, hb2.tape, hb2.output, hb2.size, hb2.block⟩; have hs2 : wr.heap.size ≤ w2.heap.size := hb2.size; have HBA : Hid (∀ o, Below wr.heap.size wr (w2.alloc o)) := Lib.hid (fun o => HBW.out.alloc hs2 o); have q1 : w2.cell? ⟨p, 1, none⟩ = some (.slice ab k cb) := (HQ.out _ HBW.out).2; have hpl2 : p < w2.heap.size := (by omega); clear ho2 hb2
              refine hK.out _ _ ?_ (fun hHeld => ?_)
              · ((try dsimp only); (first | go_keep | exact (HQ.out _ HBW.out).1 | exact (HQ.out _ (HBA.out _)).1 | exact s3 | exact s4 _))
              clear hK K; try simp only [Act.put, List.setIfInBounds_toArray, List.set_cons_zero, List.set_cons_succ]
              refine hT (v := ?_) 17 rfl (by assumption) ?_ ?_
              rotate_left
              · (intro wS hSw; (try dsimp only at hSw); go_simp; try with_reducible rfl)
              try simp only [Act.put, List.setIfInBounds_toArray]
              refine wpAnyH_ready (rs := [4, 18]) (by kernel_rfl) (by simp) (AllReadyH.cons (o := _) rfl (fun K hK => ?b2y6x4) (AllReadyH.cons (o := _) rfl (fun K hK => ?b2y6x18) AllReadyH.nil))
              case' b2y6x4 =>
                go_simp
                refine hK.out _ _ ?_ (fun hHeld => ?_)
                · ((try dsimp only); (first | go_keep | exact (HQ.out _ HBW.out).1 | exact (HQ.out _ (HBA.out _)).1 | exact s3 | exact s4 _))
                clear hK K; try simp only [Act.put, List.setIfInBounds_toArray, List.set_cons_zero, List.set_cons_succ]
                refine wpAnyH_ready (rs := [18]) (by kernel_rfl) (by simp) (AllReadyH.cons (o := _) rfl (fun K hK => ?b2y7x18) AllReadyH.nil)
                go_simp
                refine hK.out _ _ ?_ (fun hHeld => ?_)
                · ((try dsimp only); (first | go_keep | exact (HQ.out _ HBW.out).1 | exact (HQ.out _ (HBA.out _)).1 | exact s3 | exact s4 _))
                clear hK K; try simp only [Act.put, List.setIfInBounds_toArray, List.set_cons_zero, List.set_cons_succ]
                refine wpAnyH_ready (rs := [19]) (by kernel_rfl) (by simp) (AllReadyH.cons (o := _) rfl (fun K hK => ?b2y8x19) AllReadyH.nil)
                (refine step_append_any _ rfl (.tmp 61) (.tmp 75) 222 rfl 0 229 i0 _ 2 32 Tryz.underlying222 hi0 hz0 hz1 hz2 rfl (by omega) (.slice ab k cb) k _ rfl ((ownsRow_below HBO.out HBW.out).alloc _) (w2.heap.size + 1) (some ⟨w2.heap.size, 0, none⟩) 1 1 [.slice a2 n c2', .int .i64 n] rfl (by exact reads_blk (t := 229) (blk_last _ _ _ _ rfl) (by omega) rfl) (by intro u hu; simp at hu; rcases hu with rfl | rfl <;> rfl) (by simp only [maxLen]; omega) (by omega) (Nat.zero_le _) ?_); intro v3 w3 hown3 hg3 hat3; obtain ⟨a4, c4, rfl, _⟩ := own_shape hown3; go_must (have hr3 := (ownsRow_below HBO.out HBW.out).alloc (.cells #[.slice a2 n c2', .int .i64 n] 229); have hb3 := blk_grown ((HLDA.out.at_.head.below HBW.out hpl).alloc (.cells #[.slice a2 n c2', .int .i64 n] 229)) hr3 hg3 (by decide); have hb3w : Below w.heap.size w w3 := ((HBK.out.trans (HBW.out.mono hszk)).alloc (by omega) _).grown hg3 (by rw [alloc_size]; omega) (fun q hq => HLDA.out.foot q (.inr (.inl (by rw [HVB.out]; exact hq)))); have s3 : w3.cell? ⟨gA, oA + k * 2 + 1, none⟩ = some (.slice a n cf) := (hb3w.cell (p := ⟨gA, oA + k * 2 + 1, none⟩) hgAl).trans HW1.out; clear hb3w; have s4 : ∀ u, (w3.setCell ⟨p, 1, none⟩ u).cell? ⟨gA, oA + k * 2 + 1, none⟩ = some (.slice a n cf) := (fun u => (World.cell?_setCell_other w3 ⟨p, 1, none⟩ ⟨gA, oA + k * 2 + 1, none⟩ u (fun e => hgp (by first | exact congrArg Addr.block e | exact (congrArg Addr.block e).symm))).trans s3); have f1 : w3.cell? ⟨p, 1, none⟩ = some Lk.vb := hb3.cell 1; have f1f : w3.frozen? ⟨p, 1, none⟩ = false := hb3.frozen 1; have HMID := Lib.hid (bod_mid (B := ⟨bs, n⟩) HLDA.out.at_ HLDA.out.foot HVB.out HBL.out.symm HBW.out hszk (by show w2.ownsRow _ _ _ _ bs.length _; rw [← HN.out]; exact ownsRow_base_a HO2.out hszk) hb3 hr3 hown3 hg3 hat3); clear hr3 hb3 hown3 hg3 hat3)
                refine hK.out _ _ ?_ (fun hHeld => ?_)
                · ((try dsimp only); (first | go_keep | exact (HQ.out _ HBW.out).1 | exact (HQ.out _ (HBA.out _)).1 | exact s3 | exact s4 _))
                clear hK K; try simp only [Act.put, List.setIfInBounds_toArray]
                refine hT (v := ?_) 20 rfl (by assumption) ?_ ?_
                rotate_left
                · (intro wS hSw; (try dsimp only at hSw); go_simp; try with_reducible rfl)
                try simp only [Act.put]
                refine hT (v := ?_) 21 rfl (by assumption) ?_ ?_
                rotate_left
                · (intro wS hSw; (try dsimp only at hSw); go_simp; try with_reducible rfl)
                try simp only [Act.put]
                refine wpAnyH_ready (rs := [22]) (by kernel_rfl) (by simp) (AllReadyH.cons (o := _) rfl (fun K hK => ?b2y9x22) AllReadyH.nil)
                go_simp
                refine hK.out _ _ ?_ (fun hHeld => ?_)
                · ((try dsimp only); (first | go_keep | exact (HQ.out _ HBW.out).1 | exact (HQ.out _ (HBA.out _)).1 | exact s3 | exact s4 _))
                clear hK K; try simp only [Act.put, List.setIfInBounds_toArray, List.set_cons_zero, List.set_cons_succ]
                refine wpAnyH_done (by kernel_rfl) ?_ _
              case' b2y6x18 =>
                go_simp
                refine hK.out _ _ ?_ (fun hHeld => ?_)
                · ((try dsimp only); (first | go_keep | exact (HQ.out _ HBW.out).1 | exact (HQ.out _ (HBA.out _)).1 | exact s3 | exact s4 _))
                clear hK K; try simp only [Act.put, List.setIfInBounds_toArray, List.set_cons_zero, List.set_cons_succ]
                refine wpAnyH_ready (rs := [4]) (by kernel_rfl) (by simp) (AllReadyH.cons (o := _) rfl (fun K hK => ?b2y10x4) AllReadyH.nil)
                go_simp
                refine hK.out _ _ ?_ (fun hHeld => ?_)
                · ((try dsimp only); (first | go_keep | exact (HQ.out _ HBW.out).1 | exact (HQ.out _ (HBA.out _)).1 | exact s3 | exact s4 _))
                clear hK K; try simp only [Act.put, List.setIfInBounds_toArray, List.set_cons_zero, List.set_cons_succ]
                refine wpAnyH_ready (rs := [19]) (by kernel_rfl) (by simp) (AllReadyH.cons (o := _) rfl (fun K hK => ?b2y11x19) AllReadyH.nil)
                (refine step_append_any _ rfl (.tmp 61) (.tmp 75) 222 rfl 0 229 i0 _ 2 32 Tryz.underlying222 hi0 hz0 hz1 hz2 rfl (by omega) (.slice ab k cb) k _ rfl ((ownsRow_below HBO.out HBW.out).alloc _) (w2.heap.size + 1) (some ⟨w2.heap.size, 0, none⟩) 1 1 [.slice a2 n c2', .int .i64 n] rfl (by exact reads_blk (t := 229) (blk_last _ _ _ _ rfl) (by omega) rfl) (by intro u hu; simp at hu; rcases hu with rfl | rfl <;> rfl) (by simp only [maxLen]; omega) (by omega) (Nat.zero_le _) ?_); intro v3 w3 hown3 hg3 hat3; obtain ⟨a4, c4, rfl, _⟩ := own_shape hown3; go_must (have hr3 := (ownsRow_below HBO.out HBW.out).alloc (.cells #[.slice a2 n c2', .int .i64 n] 229); have hb3 := blk_grown ((HLDA.out.at_.head.below HBW.out hpl).alloc (.cells #[.slice a2 n c2', .int .i64 n] 229)) hr3 hg3 (by decide); have hb3w : Below w.heap.size w w3 := ((HBK.out.trans (HBW.out.mono hszk)).alloc (by omega) _).grown hg3 (by rw [alloc_size]; omega) (fun q hq => HLDA.out.foot q (.inr (.inl (by rw [HVB.out]; exact hq)))); have s3 : w3.cell? ⟨gA, oA + k * 2 + 1, none⟩ = some (.slice a n cf) := (hb3w.cell (p := ⟨gA, oA + k * 2 + 1, none⟩) hgAl).trans HW1.out; clear hb3w; have s4 : ∀ u, (w3.setCell ⟨p, 1, none⟩ u).cell? ⟨gA, oA + k * 2 + 1, none⟩ = some (.slice a n cf) := (fun u => (World.cell?_setCell_other w3 ⟨p, 1, none⟩ ⟨gA, oA + k * 2 + 1, none⟩ u (fun e => hgp (by first | exact congrArg Addr.block e | exact (congrArg Addr.block e).symm))).trans s3); have f1 : w3.cell? ⟨p, 1, none⟩ = some Lk.vb := hb3.cell 1; have f1f : w3.frozen? ⟨p, 1, none⟩ = false := hb3.frozen 1; have HMID := Lib.hid (bod_mid (B := ⟨bs, n⟩) HLDA.out.at_ HLDA.out.foot HVB.out HBL.out.symm HBW.out hszk (by show w2.ownsRow _ _ _ _ bs.length _; rw [← HN.out]; exact ownsRow_base_a HO2.out hszk) hb3 hr3 hown3 hg3 hat3); clear hr3 hb3 hown3 hg3 hat3)
                refine hK.out _ _ ?_ (fun hHeld => ?_)
                · ((try dsimp only); (first | go_keep | exact (HQ.out _ HBW.out).1 | exact (HQ.out _ (HBA.out _)).1 | exact s3 | exact s4 _))
                clear hK K; try simp only [Act.put, List.setIfInBounds_toArray]
                refine hT (v := ?_) 20 rfl (by assumption) ?_ ?_
                rotate_left
                · (intro wS hSw; (try dsimp only at hSw); go_simp; try with_reducible rfl)
                try simp only [Act.put]
                refine hT (v := ?_) 21 rfl (by assumption) ?_ ?_
                rotate_left
                · (intro wS hSw; (try dsimp only at hSw); go_simp; try with_reducible rfl)
                try simp only [Act.put]
                refine wpAnyH_ready (rs := [22]) (by kernel_rfl) (by simp) (AllReadyH.cons (o := _) rfl (fun K hK => ?b2y12x22) AllReadyH.nil)
                go_simp
                refine hK.out _ _ ?_ (fun hHeld => ?_)
                · ((try dsimp only); (first | go_keep | exact (HQ.out _ HBW.out).1 | exact (HQ.out _ (HBA.out _)).1 | exact s3 | exact s4 _))
                clear hK K; try simp only [Act.put, List.setIfInBounds_toArray, List.set_cons_zero, List.set_cons_succ]
                refine wpAnyH_done (by kernel_rfl) ?_ _
            all_goals (
              refine exit_world fun X hX => ?_
              have hM4 : MdAt X p { S with bodies := S.bodies ++ [⟨bs, n⟩] } { Lk with vb := .slice a4 (k + 1) c4, dat := Lk.dat ++ [.slice a2 n c2'] } := by rw [hX]; exact HMID.out.1
              have HF4 : Hid (∀ j, ({ Lk with vb := .slice a4 (k + 1) c4, dat := Lk.dat ++ [.slice a2 n c2'] } : MLay).foot p j → w.heap.size ≤ j) := Lib.hid HMID.out.2.1
              have hBX : Below w.heap.size w X := by rw [hX]; exact (HBK.out.trans (HBW.out.mono hszk)).trans HMID.out.2.2
              have d2 : X.cell? ⟨p, 2, none⟩ = some (.slice (some ⟨b, 0, none⟩) k cn) := by have := hM4.head.cell 2; rw [this]; show some Lk.vn = _; rw [HVN.out]
              have HNR : Hid (X.ownsRow 0 221 2 (.slice (some ⟨b, 0, none⟩) k cn) k (entCells (dents S.now))) := Lib.hid (by have := hM4.rows.now; rw [show ({ Lk with vb := .slice a4 (k + 1) c4, dat := Lk.dat ++ [.slice a2 n c2'] } : MLay).vn = Lk.vn from rfl, HVN.out] at this; rw [HDL.out] at this; exact this)
              have hplX : p < X.heap.size := hM4.head.lt
              have hszX := hBX.size
              have HM4 := Lib.hid hM4
              have HBX := Lib.hid hBX
              clear hX hM4 hBX f1 f1f c1 c2 q1 hpl2 hs2 s3 s4
              go_wp2_with (at_builtin; go_must (refine wpList_append_any _ rfl (.tmp 84) (.tmp 88) 223 rfl 0 221 iE _ 2 24 Tryz.underlying223 hiE hy0 hy1 hy2 rfl (by omega) (.slice (some ⟨b, 0, none⟩) k cn) k _ rfl (HNR.out.alloc _) (X.heap.size + 1) (some ⟨X.heap.size, 0, none⟩) 1 1 [.string ⟨nm.toArray⟩, .int .i64 k] rfl (by exact reads_blk (t := 221) (blk_last _ _ _ _ rfl) (by omega) rfl) (by intro u hu; simp at hu; rcases hu with rfl | rfl <;> rfl) (by simp only [maxLen]; omega) (by omega) (Nat.zero_le _) ?_); intro v5 w5 hown5 hg5 hat5; obtain ⟨a5, c5, rfl, _⟩ := own_shape hown5; go_must (have hr5 := HNR.out.alloc (.cells #[.string ⟨nm.toArray⟩, .int .i64 k] 221); have hb5 := blk_grown (HM4.out.head.alloc (.cells #[.string ⟨nm.toArray⟩, .int .i64 k] 221)) hr5 hg5 (by decide); have g2 : w5.cell? ⟨p, 2, none⟩ = some Lk.vn := hb5.cell 2; have g2f : w5.frozen? ⟨p, 2, none⟩ = false := hb5.frozen 2; have HEND := Lib.hid (now_mid (D := S.now.put (key nm) (num k)) HM4.out HF4.out HVN.out HPD.out HKP.out HLDA.out.vk HDL.out hszX ((Ents.snoc (dents_ents HSO.out) HSO.out.tidy HALL.out k).dents (HSO.out.put (named_len HND.out) k)).symm hb5 hr5 hown5 hg5 hat5); clear hr5 hb5 hown5 hg5 hat5))
              go_roundw
              case rel =>
                exact ⟨k + 1, by omega, by go_num, ⟨_, by rw [HLK.out]; exact HEND.out.1⟩, HBX.out.trans HEND.out.2, Lib.hid (HGO.out HND.out HNH.out)⟩
              case measure => simp [intOf]; omega)
          | false =>
            cases hg : dget S.now nm with
            | some j =>
              have HST : Hid (S0.loads fs = false) := Lib.hid (HSTOP.out (.inr (has_of hg)))
              have HFJ : Hid (Calls Tryz.prog 134 #[.slice (some ⟨b, 0, none⟩) k cn, .string ⟨nm.toArray⟩] wr fun e w' => e = .returned (.int .i64 j) ∧ wr = w') := Lib.hid (by have := HFI.out; rw [hg] at this; exact this)
              clear hg
              go_wp2_with (first
                | (go_at_call 133; refine (HNMV.out _).mono ?_; rintro e w' ⟨rfl, rfl⟩)
                | (go_at_call 134; refine HFJ.out.mono ?_; rintro e w' ⟨rfl, rfl⟩))
              go_ret
              exact ⟨fun h => (by rw [HST.out] at h; cases h), fun _ => rfl, HBK.out⟩
            | none =>
              have HNH : Hid (has S.now (key nm) = false) := Lib.hid (has_none HSO.out hg)
              have HFJ : Hid (Calls Tryz.prog 134 #[.slice (some ⟨b, 0, none⟩) k cn, .string ⟨nm.toArray⟩] wr fun e w' => e = .returned (.int .i64 (-1)) ∧ wr = w') := Lib.hid (by have := HFI.out; rw [hg] at this; exact this)
              have HDT : Hid (eset (dents S.now) nm (some k) = dents (S.now.put (key nm) (num k))) := Lib.hid (((dents_ents HSO.out).set HSO.out.tidy nm (some k)).dents (HSO.out.put (named_len HND.out) k))
              have HKB : Hid (∀ i, some k = some i → i ≤ 2199023255552) := Lib.hid (fun i hi => by injection hi with hi; omega)
              clear hg
              go_wp2_with (first
                | (go_at_call 133; refine (HNMV.out _).mono ?_; rintro e w' ⟨rfl, rfl⟩)
                | (go_at_call 134; refine HFJ.out.mono ?_; rintro e w' ⟨rfl, rfl⟩))
              refine wp_region_held_drew (S := (fun w' => w'.cell? ⟨gA, oA + k * 2 + 1, none⟩ = some (.slice a n cf))) (by kernel_rfl) ?_ (fun hHeld => ?_)
              · ((try dsimp only); (first | go_keep | exact (HQ.out _ HBW.out).1 | exact (HQ.out _ (HBA.out _)).1 | exact s3 | exact s4 _))
              refine hT (v := ?_) 0 rfl (by assumption) ?_ ?_
              rotate_left
              · (intro wS hSw; (try dsimp only at hSw); go_simp; try with_reducible rfl)
              try simp only [Act.put, List.setIfInBounds_toArray]
              refine hT (v := ?_) 1 rfl (by assumption) ?_ ?_
              rotate_left
              · (intro wS hSw; (try dsimp only at hSw); go_simp; try with_reducible rfl)
              try simp only [Act.put]
              refine hT (v := ?_) 2 rfl (by assumption) ?_ ?_
              rotate_left
              · (intro wS hSw; (try dsimp only at hSw); go_simp; try with_reducible rfl)
              try simp only [Act.put]
              refine hT (v := ?_) 3 rfl (by assumption) ?_ ?_
              rotate_left
              · (intro wS hSw; (try dsimp only at hSw); go_simp; try with_reducible rfl)
              try simp only [Act.put]
              refine hT (v := ?_) 5 rfl (by assumption) ?_ ?_
              rotate_left
              · (intro wS hSw; (try dsimp only at hSw); go_simp; try with_reducible rfl)
              try simp only [Act.put]
              refine hT (v := ?_) 6 rfl (by assumption) ?_ ?_
              rotate_left
              · (intro wS hSw; (try dsimp only at hSw); go_simp; try with_reducible rfl)
              try simp only [Act.put]
              refine hT (v := ?_) 7 rfl (by assumption) ?_ ?_
              rotate_left
              · (intro wS hSw; (try dsimp only at hSw); go_simp; try with_reducible rfl)
              try simp only [Act.put]
              refine hT (v := ?_) 8 rfl (by assumption) ?_ ?_
              rotate_left
              · (intro wS hSw; (try dsimp only at hSw); go_simp; try with_reducible rfl)
              try simp only [Act.put]
              refine hT (v := ?_) 9 rfl (by assumption) ?_ ?_
              rotate_left
              · (intro wS hSw; (try dsimp only at hSw); go_simp; try with_reducible rfl)
              try simp only [Act.put]
              refine hT (v := ?_) 11 rfl (by assumption) ?_ ?_
              rotate_left
              · (intro wS hSw; (try dsimp only at hSw); go_simp; try with_reducible rfl)
              try simp only [Act.put]
              refine hT (v := ?_) 12 rfl (by assumption) ?_ ?_
              rotate_left
              · (intro wS hSw; (try dsimp only at hSw); go_simp; try with_reducible rfl)
              try simp only [Act.put]
              refine hT (v := ?_) 13 rfl (by assumption) ?_ ?_
              rotate_left
              · (intro wS hSw; (try dsimp only at hSw); go_simp; try with_reducible rfl)
              try simp only [Act.put]
              refine hT (v := ?_) 14 rfl (by assumption) ?_ ?_
              rotate_left
              · (intro wS hSw; (try dsimp only at hSw); go_simp; try with_reducible rfl)
              try simp only [Act.put]
              refine hT (v := ?_) 15 rfl (by assumption) ?_ ?_
              rotate_left
              · (intro wS hSw; (try dsimp only at hSw); go_simp; try with_reducible rfl)
              try simp only [Act.put]
              refine hT (v := ?_) 16 rfl (by assumption) ?_ ?_
              rotate_left
              · (intro wS hSw; (try dsimp only at hSw); go_simp; try with_reducible rfl)
              try simp only [Act.put]
              refine wpAnyH_ready (rs := [4, 10]) (by kernel_rfl) (by simp) (AllReadyH.cons (o := _) rfl (fun K hK => ?b3y1x4) (AllReadyH.cons (o := _) rfl (fun K hK => ?b3y1x10) AllReadyH.nil))
              case' b3y1x4 =>
                go_simp
                refine hK.out _ _ ?_ (fun hHeld => ?_)
                · ((try dsimp only); (first | go_keep | exact (HQ.out _ HBW.out).1 | exact (HQ.out _ (HBA.out _)).1 | exact s3 | exact s4 _))
                clear hK K; try simp only [Act.put, List.setIfInBounds_toArray, List.set_cons_zero, List.set_cons_succ]
                refine wpAnyH_ready (rs := [10]) (by kernel_rfl) (by simp) (AllReadyH.cons (o := _) rfl (fun K hK => ?b3y2x10) AllReadyH.nil)
                go_simp; go_at_call 135; refine (hcopy.out _ (below_drew1 (Below.refl _ _))).mono ?_; rintro e w2 ⟨v2, rfl, ho2, hb2⟩; obtain ⟨a2, c2', rfl, _⟩ := own_shape ho2; have HO2 : Hid (w2.ownsRow wr.heap.size 5 1 (.slice a2 n c2') n (bs.map B8)) := Lib.hid ho2; have HBW : Hid (Below wr.heap.size wr w2) := Lib.hid ⟨hb2.os, hb2.tape, hb2.output, hb2.size, hb2.block⟩; have hs2 : wr.heap.size ≤ w2.heap.size := hb2.size; have HBA : Hid (∀ o, Below wr.heap.size wr (w2.alloc o)) := Lib.hid (fun o => HBW.out.alloc hs2 o); have q1 : w2.cell? ⟨p, 1, none⟩ = some (.slice ab k cb) := (HQ.out _ HBW.out).2; have hpl2 : p < w2.heap.size := (by omega); clear ho2 hb2
                refine hK.out _ _ ?_ (fun hHeld => ?_)
                · ((try dsimp only); (first | go_keep | exact (HQ.out _ HBW.out).1 | exact (HQ.out _ (HBA.out _)).1 | exact s3 | exact s4 _))
                clear hK K; try simp only [Act.put, List.setIfInBounds_toArray, List.set_cons_zero, List.set_cons_succ]
                refine hT (v := ?_) 17 rfl (by assumption) ?_ ?_
                rotate_left
                · (intro wS hSw; (try dsimp only at hSw); go_simp; try with_reducible rfl)
                try simp only [Act.put, List.setIfInBounds_toArray]
                refine wpAnyH_ready (rs := [18]) (by kernel_rfl) (by simp) (AllReadyH.cons (o := _) rfl (fun K hK => ?b3y3x18) AllReadyH.nil)
                go_simp
                refine hK.out _ _ ?_ (fun hHeld => ?_)
                · ((try dsimp only); (first | go_keep | exact (HQ.out _ HBW.out).1 | exact (HQ.out _ (HBA.out _)).1 | exact s3 | exact s4 _))
                clear hK K; try simp only [Act.put, List.setIfInBounds_toArray, List.set_cons_zero, List.set_cons_succ]
                refine wpAnyH_ready (rs := [19]) (by kernel_rfl) (by simp) (AllReadyH.cons (o := _) rfl (fun K hK => ?b3y4x19) AllReadyH.nil)
                (refine step_append_any _ rfl (.tmp 61) (.tmp 75) 222 rfl 0 229 i0 _ 2 32 Tryz.underlying222 hi0 hz0 hz1 hz2 rfl (by omega) (.slice ab k cb) k _ rfl ((ownsRow_below HBO.out HBW.out).alloc _) (w2.heap.size + 1) (some ⟨w2.heap.size, 0, none⟩) 1 1 [.slice a2 n c2', .int .i64 n] rfl (by exact reads_blk (t := 229) (blk_last _ _ _ _ rfl) (by omega) rfl) (by intro u hu; simp at hu; rcases hu with rfl | rfl <;> rfl) (by simp only [maxLen]; omega) (by omega) (Nat.zero_le _) ?_); intro v3 w3 hown3 hg3 hat3; obtain ⟨a4, c4, rfl, _⟩ := own_shape hown3; go_must (have hr3 := (ownsRow_below HBO.out HBW.out).alloc (.cells #[.slice a2 n c2', .int .i64 n] 229); have hb3 := blk_grown ((HLDA.out.at_.head.below HBW.out hpl).alloc (.cells #[.slice a2 n c2', .int .i64 n] 229)) hr3 hg3 (by decide); have hb3w : Below w.heap.size w w3 := ((HBK.out.trans (HBW.out.mono hszk)).alloc (by omega) _).grown hg3 (by rw [alloc_size]; omega) (fun q hq => HLDA.out.foot q (.inr (.inl (by rw [HVB.out]; exact hq)))); have s3 : w3.cell? ⟨gA, oA + k * 2 + 1, none⟩ = some (.slice a n cf) := (hb3w.cell (p := ⟨gA, oA + k * 2 + 1, none⟩) hgAl).trans HW1.out; clear hb3w; have s4 : ∀ u, (w3.setCell ⟨p, 1, none⟩ u).cell? ⟨gA, oA + k * 2 + 1, none⟩ = some (.slice a n cf) := (fun u => (World.cell?_setCell_other w3 ⟨p, 1, none⟩ ⟨gA, oA + k * 2 + 1, none⟩ u (fun e => hgp (by first | exact congrArg Addr.block e | exact (congrArg Addr.block e).symm))).trans s3); have f1 : w3.cell? ⟨p, 1, none⟩ = some Lk.vb := hb3.cell 1; have f1f : w3.frozen? ⟨p, 1, none⟩ = false := hb3.frozen 1; have HMID := Lib.hid (bod_mid (B := ⟨bs, n⟩) HLDA.out.at_ HLDA.out.foot HVB.out HBL.out.symm HBW.out hszk (by show w2.ownsRow _ _ _ _ bs.length _; rw [← HN.out]; exact ownsRow_base_a HO2.out hszk) hb3 hr3 hown3 hg3 hat3); clear hr3 hb3 hown3 hg3 hat3)
                refine hK.out _ _ ?_ (fun hHeld => ?_)
                · ((try dsimp only); (first | go_keep | exact (HQ.out _ HBW.out).1 | exact (HQ.out _ (HBA.out _)).1 | exact s3 | exact s4 _))
                clear hK K; try simp only [Act.put, List.setIfInBounds_toArray]
                refine hT (v := ?_) 20 rfl (by assumption) ?_ ?_
                rotate_left
                · (intro wS hSw; (try dsimp only at hSw); go_simp; try with_reducible rfl)
                try simp only [Act.put]
                refine hT (v := ?_) 21 rfl (by assumption) ?_ ?_
                rotate_left
                · (intro wS hSw; (try dsimp only at hSw); go_simp; try with_reducible rfl)
                try simp only [Act.put]
                refine wpAnyH_ready (rs := [22]) (by kernel_rfl) (by simp) (AllReadyH.cons (o := _) rfl (fun K hK => ?b3y5x22) AllReadyH.nil)
                go_simp
                refine hK.out _ _ ?_ (fun hHeld => ?_)
                · ((try dsimp only); (first | go_keep | exact (HQ.out _ HBW.out).1 | exact (HQ.out _ (HBA.out _)).1 | exact s3 | exact s4 _))
                clear hK K; try simp only [Act.put, List.setIfInBounds_toArray, List.set_cons_zero, List.set_cons_succ]
                refine wpAnyH_done (by kernel_rfl) ?_ _
              case' b3y1x10 =>
                go_simp; go_at_call 135; refine (hcopy.out _ (below_drew1 (Below.refl _ _))).mono ?_; rintro e w2 ⟨v2, rfl, ho2, hb2⟩; obtain ⟨a2, c2', rfl, _⟩ := own_shape ho2; have HO2 : Hid (w2.ownsRow wr.heap.size 5 1 (.slice a2 n c2') n (bs.map B8)) := Lib.hid ho2; have HBW : Hid (Below wr.heap.size wr w2) := Lib.hid ⟨hb2.os, hb2.tape, hb2.output, hb2.size, hb2.block⟩; have hs2 : wr.heap.size ≤ w2.heap.size := hb2.size; have HBA : Hid (∀ o, Below wr.heap.size wr (w2.alloc o)) := Lib.hid (fun o => HBW.out.alloc hs2 o); have q1 : w2.cell? ⟨p, 1, none⟩ = some (.slice ab k cb) := (HQ.out _ HBW.out).2; have hpl2 : p < w2.heap.size := (by omega); clear ho2 hb2
                refine hK.out _ _ ?_ (fun hHeld => ?_)
                · ((try dsimp only); (first | go_keep | exact (HQ.out _ HBW.out).1 | exact (HQ.out _ (HBA.out _)).1 | exact s3 | exact s4 _))
                clear hK K; try simp only [Act.put, List.setIfInBounds_toArray, List.set_cons_zero, List.set_cons_succ]
                refine hT (v := ?_) 17 rfl (by assumption) ?_ ?_
                rotate_left
                · (intro wS hSw; (try dsimp only at hSw); go_simp; try with_reducible rfl)
                try simp only [Act.put, List.setIfInBounds_toArray]
                refine wpAnyH_ready (rs := [4, 18]) (by kernel_rfl) (by simp) (AllReadyH.cons (o := _) rfl (fun K hK => ?b3y6x4) (AllReadyH.cons (o := _) rfl (fun K hK => ?b3y6x18) AllReadyH.nil))
                case' b3y6x4 =>
                  go_simp
                  refine hK.out _ _ ?_ (fun hHeld => ?_)
                  · ((try dsimp only); (first | go_keep | exact (HQ.out _ HBW.out).1 | exact (HQ.out _ (HBA.out _)).1 | exact s3 | exact s4 _))
                  clear hK K; try simp only [Act.put, List.setIfInBounds_toArray, List.set_cons_zero, List.set_cons_succ]
                  refine wpAnyH_ready (rs := [18]) (by kernel_rfl) (by simp) (AllReadyH.cons (o := _) rfl (fun K hK => ?b3y7x18) AllReadyH.nil)
                  go_simp
                  refine hK.out _ _ ?_ (fun hHeld => ?_)
                  · ((try dsimp only); (first | go_keep | exact (HQ.out _ HBW.out).1 | exact (HQ.out _ (HBA.out _)).1 | exact s3 | exact s4 _))
                  clear hK K; try simp only [Act.put, List.setIfInBounds_toArray, List.set_cons_zero, List.set_cons_succ]
                  refine wpAnyH_ready (rs := [19]) (by kernel_rfl) (by simp) (AllReadyH.cons (o := _) rfl (fun K hK => ?b3y8x19) AllReadyH.nil)
                  (refine step_append_any _ rfl (.tmp 61) (.tmp 75) 222 rfl 0 229 i0 _ 2 32 Tryz.underlying222 hi0 hz0 hz1 hz2 rfl (by omega) (.slice ab k cb) k _ rfl ((ownsRow_below HBO.out HBW.out).alloc _) (w2.heap.size + 1) (some ⟨w2.heap.size, 0, none⟩) 1 1 [.slice a2 n c2', .int .i64 n] rfl (by exact reads_blk (t := 229) (blk_last _ _ _ _ rfl) (by omega) rfl) (by intro u hu; simp at hu; rcases hu with rfl | rfl <;> rfl) (by simp only [maxLen]; omega) (by omega) (Nat.zero_le _) ?_); intro v3 w3 hown3 hg3 hat3; obtain ⟨a4, c4, rfl, _⟩ := own_shape hown3; go_must (have hr3 := (ownsRow_below HBO.out HBW.out).alloc (.cells #[.slice a2 n c2', .int .i64 n] 229); have hb3 := blk_grown ((HLDA.out.at_.head.below HBW.out hpl).alloc (.cells #[.slice a2 n c2', .int .i64 n] 229)) hr3 hg3 (by decide); have hb3w : Below w.heap.size w w3 := ((HBK.out.trans (HBW.out.mono hszk)).alloc (by omega) _).grown hg3 (by rw [alloc_size]; omega) (fun q hq => HLDA.out.foot q (.inr (.inl (by rw [HVB.out]; exact hq)))); have s3 : w3.cell? ⟨gA, oA + k * 2 + 1, none⟩ = some (.slice a n cf) := (hb3w.cell (p := ⟨gA, oA + k * 2 + 1, none⟩) hgAl).trans HW1.out; clear hb3w; have s4 : ∀ u, (w3.setCell ⟨p, 1, none⟩ u).cell? ⟨gA, oA + k * 2 + 1, none⟩ = some (.slice a n cf) := (fun u => (World.cell?_setCell_other w3 ⟨p, 1, none⟩ ⟨gA, oA + k * 2 + 1, none⟩ u (fun e => hgp (by first | exact congrArg Addr.block e | exact (congrArg Addr.block e).symm))).trans s3); have f1 : w3.cell? ⟨p, 1, none⟩ = some Lk.vb := hb3.cell 1; have f1f : w3.frozen? ⟨p, 1, none⟩ = false := hb3.frozen 1; have HMID := Lib.hid (bod_mid (B := ⟨bs, n⟩) HLDA.out.at_ HLDA.out.foot HVB.out HBL.out.symm HBW.out hszk (by show w2.ownsRow _ _ _ _ bs.length _; rw [← HN.out]; exact ownsRow_base_a HO2.out hszk) hb3 hr3 hown3 hg3 hat3); clear hr3 hb3 hown3 hg3 hat3)
                  refine hK.out _ _ ?_ (fun hHeld => ?_)
                  · ((try dsimp only); (first | go_keep | exact (HQ.out _ HBW.out).1 | exact (HQ.out _ (HBA.out _)).1 | exact s3 | exact s4 _))
                  clear hK K; try simp only [Act.put, List.setIfInBounds_toArray]
                  refine hT (v := ?_) 20 rfl (by assumption) ?_ ?_
                  rotate_left
                  · (intro wS hSw; (try dsimp only at hSw); go_simp; try with_reducible rfl)
                  try simp only [Act.put]
                  refine hT (v := ?_) 21 rfl (by assumption) ?_ ?_
                  rotate_left
                  · (intro wS hSw; (try dsimp only at hSw); go_simp; try with_reducible rfl)
                  try simp only [Act.put]
                  refine wpAnyH_ready (rs := [22]) (by kernel_rfl) (by simp) (AllReadyH.cons (o := _) rfl (fun K hK => ?b3y9x22) AllReadyH.nil)
                  go_simp
                  refine hK.out _ _ ?_ (fun hHeld => ?_)
                  · ((try dsimp only); (first | go_keep | exact (HQ.out _ HBW.out).1 | exact (HQ.out _ (HBA.out _)).1 | exact s3 | exact s4 _))
                  clear hK K; try simp only [Act.put, List.setIfInBounds_toArray, List.set_cons_zero, List.set_cons_succ]
                  refine wpAnyH_done (by kernel_rfl) ?_ _
                case' b3y6x18 =>
                  go_simp
                  refine hK.out _ _ ?_ (fun hHeld => ?_)
                  · ((try dsimp only); (first | go_keep | exact (HQ.out _ HBW.out).1 | exact (HQ.out _ (HBA.out _)).1 | exact s3 | exact s4 _))
                  clear hK K; try simp only [Act.put, List.setIfInBounds_toArray, List.set_cons_zero, List.set_cons_succ]
                  refine wpAnyH_ready (rs := [4]) (by kernel_rfl) (by simp) (AllReadyH.cons (o := _) rfl (fun K hK => ?b3y10x4) AllReadyH.nil)
                  go_simp
                  refine hK.out _ _ ?_ (fun hHeld => ?_)
                  · ((try dsimp only); (first | go_keep | exact (HQ.out _ HBW.out).1 | exact (HQ.out _ (HBA.out _)).1 | exact s3 | exact s4 _))
                  clear hK K; try simp only [Act.put, List.setIfInBounds_toArray, List.set_cons_zero, List.set_cons_succ]
                  refine wpAnyH_ready (rs := [19]) (by kernel_rfl) (by simp) (AllReadyH.cons (o := _) rfl (fun K hK => ?b3y11x19) AllReadyH.nil)
                  (refine step_append_any _ rfl (.tmp 61) (.tmp 75) 222 rfl 0 229 i0 _ 2 32 Tryz.underlying222 hi0 hz0 hz1 hz2 rfl (by omega) (.slice ab k cb) k _ rfl ((ownsRow_below HBO.out HBW.out).alloc _) (w2.heap.size + 1) (some ⟨w2.heap.size, 0, none⟩) 1 1 [.slice a2 n c2', .int .i64 n] rfl (by exact reads_blk (t := 229) (blk_last _ _ _ _ rfl) (by omega) rfl) (by intro u hu; simp at hu; rcases hu with rfl | rfl <;> rfl) (by simp only [maxLen]; omega) (by omega) (Nat.zero_le _) ?_); intro v3 w3 hown3 hg3 hat3; obtain ⟨a4, c4, rfl, _⟩ := own_shape hown3; go_must (have hr3 := (ownsRow_below HBO.out HBW.out).alloc (.cells #[.slice a2 n c2', .int .i64 n] 229); have hb3 := blk_grown ((HLDA.out.at_.head.below HBW.out hpl).alloc (.cells #[.slice a2 n c2', .int .i64 n] 229)) hr3 hg3 (by decide); have hb3w : Below w.heap.size w w3 := ((HBK.out.trans (HBW.out.mono hszk)).alloc (by omega) _).grown hg3 (by rw [alloc_size]; omega) (fun q hq => HLDA.out.foot q (.inr (.inl (by rw [HVB.out]; exact hq)))); have s3 : w3.cell? ⟨gA, oA + k * 2 + 1, none⟩ = some (.slice a n cf) := (hb3w.cell (p := ⟨gA, oA + k * 2 + 1, none⟩) hgAl).trans HW1.out; clear hb3w; have s4 : ∀ u, (w3.setCell ⟨p, 1, none⟩ u).cell? ⟨gA, oA + k * 2 + 1, none⟩ = some (.slice a n cf) := (fun u => (World.cell?_setCell_other w3 ⟨p, 1, none⟩ ⟨gA, oA + k * 2 + 1, none⟩ u (fun e => hgp (by first | exact congrArg Addr.block e | exact (congrArg Addr.block e).symm))).trans s3); have f1 : w3.cell? ⟨p, 1, none⟩ = some Lk.vb := hb3.cell 1; have f1f : w3.frozen? ⟨p, 1, none⟩ = false := hb3.frozen 1; have HMID := Lib.hid (bod_mid (B := ⟨bs, n⟩) HLDA.out.at_ HLDA.out.foot HVB.out HBL.out.symm HBW.out hszk (by show w2.ownsRow _ _ _ _ bs.length _; rw [← HN.out]; exact ownsRow_base_a HO2.out hszk) hb3 hr3 hown3 hg3 hat3); clear hr3 hb3 hown3 hg3 hat3)
                  refine hK.out _ _ ?_ (fun hHeld => ?_)
                  · ((try dsimp only); (first | go_keep | exact (HQ.out _ HBW.out).1 | exact (HQ.out _ (HBA.out _)).1 | exact s3 | exact s4 _))
                  clear hK K; try simp only [Act.put, List.setIfInBounds_toArray]
                  refine hT (v := ?_) 20 rfl (by assumption) ?_ ?_
                  rotate_left
                  · (intro wS hSw; (try dsimp only at hSw); go_simp; try with_reducible rfl)
                  try simp only [Act.put]
                  refine hT (v := ?_) 21 rfl (by assumption) ?_ ?_
                  rotate_left
                  · (intro wS hSw; (try dsimp only at hSw); go_simp; try with_reducible rfl)
                  try simp only [Act.put]
                  refine wpAnyH_ready (rs := [22]) (by kernel_rfl) (by simp) (AllReadyH.cons (o := _) rfl (fun K hK => ?b3y12x22) AllReadyH.nil)
                  go_simp
                  refine hK.out _ _ ?_ (fun hHeld => ?_)
                  · ((try dsimp only); (first | go_keep | exact (HQ.out _ HBW.out).1 | exact (HQ.out _ (HBA.out _)).1 | exact s3 | exact s4 _))
                  clear hK K; try simp only [Act.put, List.setIfInBounds_toArray, List.set_cons_zero, List.set_cons_succ]
                  refine wpAnyH_done (by kernel_rfl) ?_ _
              all_goals (
                refine exit_world fun X hX => ?_
                have hM4 : MdAt X p { S with bodies := S.bodies ++ [⟨bs, n⟩] } { Lk with vb := .slice a4 (k + 1) c4, dat := Lk.dat ++ [.slice a2 n c2'] } := by rw [hX]; exact HMID.out.1
                have HF4 : Hid (∀ j, ({ Lk with vb := .slice a4 (k + 1) c4, dat := Lk.dat ++ [.slice a2 n c2'] } : MLay).foot p j → w.heap.size ≤ j) := Lib.hid HMID.out.2.1
                have hBX : Below w.heap.size w X := by rw [hX]; exact (HBK.out.trans (HBW.out.mono hszk)).trans HMID.out.2.2
                have d2 : X.cell? ⟨p, 2, none⟩ = some (.slice (some ⟨b, 0, none⟩) k cn) := by have := hM4.head.cell 2; rw [this]; show some Lk.vn = _; rw [HVN.out]
                have HNR : Hid (X.ownsRow 0 221 2 (.slice (some ⟨b, 0, none⟩) k cn) k (entCells (dents S.now))) := Lib.hid (by have := hM4.rows.now; rw [show ({ Lk with vb := .slice a4 (k + 1) c4, dat := Lk.dat ++ [.slice a2 n c2'] } : MLay).vn = Lk.vn from rfl, HVN.out] at this; rw [HDL.out] at this; exact this)
                have hplX : p < X.heap.size := hM4.head.lt
                have hszX := hBX.size
                have HM4 := Lib.hid hM4
                have HBX := Lib.hid hBX
                clear hX hM4 hBX f1 f1f c1 c2 q1 hpl2 hs2 s3 s4
                go_wp2_with (go_at_call 136; go_must (refine (mset_any (dents S.now) _ k nm (some k) _ HDL.out HNR.out (by omega) HKB.out).mono ?_); rintro e w5 ⟨v5, rfl, ho5, hb5⟩; rw [HDT.out] at ho5; obtain ⟨a5, c5, rfl, _⟩ := own_shape ho5; go_must (have g2 : w5.cell? ⟨p, 2, none⟩ = some (.slice (some ⟨b, 0, none⟩) k cn) := (hb5.cell (p := ⟨p, 2, none⟩) hplX).trans d2; have g2f : w5.frozen? ⟨p, 2, none⟩ = false := (HM4.out.head.below hb5 hplX).frozen 2; have HEND := Lib.hid (now_set (D := S.now.put (key nm) (num k)) HM4.out HF4.out HPD.out HKP.out HLDA.out.vk hszX ho5 hb5); clear ho5 hb5))
                go_roundw
                case rel =>
                  exact ⟨k + 1, by omega, by go_num, ⟨_, by rw [HLK.out]; exact HEND.out.1⟩, HBX.out.trans HEND.out.2, Lib.hid (HGO.out HND.out HNH.out)⟩
                case measure => simp [intOf]; omega)
    · have HE : Hid (fs.take k = fs) := Lib.hid (List.take_of_length_le (by rw [← HM.out]; omega))
      have h := HLDA.out.at_
      obtain ⟨an, cn, hvn, _⟩ := own_shape h.rows.now
      obtain ⟨nd, hnd⟩ : ∃ nd, nd = (dents (ldK r.toNat fs k).now).length := ⟨_, rfl⟩
      rw [← hnd] at hvn
      have HVN := Lib.hid hvn
      have c2 : wr.cell? ⟨p, 2, none⟩ = some (.slice an nd cn) := by have := h.head.cell 2; rw [this]; show some Lk.vn = _; rw [hvn]
      have c3 : wr.cell? ⟨p, 3, none⟩ = some Lk.vk := h.head.cell 3
      have cf : wr.frozen? ⟨p, 3, none⟩ = false := h.head.frozen 3
      have hlt : ¬ k < m := hltm
      clear h hvn hnd hld hbk hinv
      go_wp2
      go_ret
      rw [← HVN.out]
      have hb := HLDA.out.at_.head.set_ 3 Lk.vn
      have car : ∀ {base size n : Nat} {e : TypeId} {v : Value} {xs : List Value}, wr.ownsRow base e size v n xs → e ≠ 226 → (wr.setCell ⟨p, 3, none⟩ Lk.vn).ownsRow base e size v n xs := fun h1 h2 => row_set h1 HLDA.out.at_.head h2 3 _
      have R := HLDA.out.at_.rows
      have hM : MdAt (wr.setCell ⟨p, 3, none⟩ Lk.vn) p { ldK r.toNat fs k with kept := (ldK r.toNat fs k).now } { Lk with vk := Lk.vn } := ⟨hb, ⟨car R.bod (by decide), R.ld, fun i hi => car (R.data i hi) (by decide), car R.now (by decide), car R.now (by decide), car R.chs (by decide), R.lc, fun j hj => car (R.chg j hj) (by decide)⟩⟩
      have hlk : ldK r.toNat fs k = { (Drv.new r.toNat).loadK fs with kept := .map [], used := 0 } := by unfold ldK; rw [HE.out]
      rw [hlk] at hM
      have hM2 := hM.same (T := (Drv.new r.toNat).loadK fs) rfl rfl rfl (loadK_same _ _) rfl
      have hB : Below w.heap.size w (wr.setCell ⟨p, 3, none⟩ Lk.vn) := HBK.out.setCell hpw _
      refine ⟨fun _ => ⟨p, rfl, ⟨_, by rw [HS0.out]; exact hM2, fun j hj => ⟨?_, hM2.lt hj⟩⟩⟩, fun h => (by have h2 := HLS.out; rw [HE.out, h] at h2; cases h2), hB⟩
      rcases hj with hj | hj | hj | hj | hj | ⟨v, hv, hj⟩ | ⟨v, hv, hj⟩
      · exact HLDA.out.foot j (.inl hj)
      · exact HLDA.out.foot j (.inr (.inl hj))
      · exact HLDA.out.foot j (.inr (.inr (.inl hj)))
      · exact HLDA.out.foot j (.inr (.inr (.inl hj)))
      · exact HLDA.out.foot j (.inr (.inr (.inr (.inr (.inl hj)))))
      · exact HLDA.out.foot j (.inr (.inr (.inr (.inr (.inr (.inl ⟨v, hv, hj⟩))))))
      · exact HLDA.out.foot j (.inr (.inr (.inr (.inr (.inr (.inr ⟨v, hv, hj⟩))))))
end Go.Proofs.YtcbebefdbdppdaaGreat
namespace Go.Proofs.YtcbebefdbdppdaaGreat
open Go.RowKit Go.Maps
theorem FilesAt.filesIn {w : World} {base : Nat} {v : Value} {fs : List File} (h : FilesAt w base v fs) : ∃ A c vals, v = .slice A fs.length c ∧ FilesIn w A fs vals ∧ ∀ ad, A = some ad → ad.spot = none := by
  obtain ⟨vals, hl, hrow, hdat⟩ := h
  obtain ⟨A, c, hv, _⟩ := own_shape hrow
  subst hv
  refine ⟨A, c, vals, rfl, ⟨hl, Reads.of_own hrow, fun k f u hf hu => ?_⟩, fun ad had => ?_⟩
  · have hr := hdat k f u hf hu
    obtain ⟨a, c', e, _⟩ := own_shape hr
    subst e
    exact ⟨a, c', rfl, Reads.of_own hr⟩
  · rcases hrow.2 with ⟨e, _⟩ | ⟨g, cap, cur, e, _⟩
    · injection e with e _ _; rw [had] at e; cases e
    · injection e with e _ _; rw [had] at e; injection e with e; rw [e]
theorem row_drew {w : World} {base size n : Nat} {e : TypeId} {v : Value} {xs : List Value} (h : w.ownsRow base e size v n xs) : w.drew.ownsRow base e size v n xs := h
theorem own_or_none (v : Value) : v.ownBlock = none ∨ v.ownBlock ≠ (Value.slice none 0 0).ownBlock := by
  cases h : v.ownBlock with
  | none => exact .inl rfl
  | some k => exact .inr (by simp [Value.ownBlock])
set_option maxRecDepth 100000 in
set_option maxHeartbeats 8000000 in
theorem pfiles_any (fs : List File) (vals : List Value) (A : Option Addr) (c : Nat) (w : World) (hin : FilesIn w A fs vals) (hsp : ∀ ad, A = some ad → 0 < fs.length → ad.spot = none) (hfs : fs.length ≤ 1099511627776) (htot : Drv.total fs ≤ 140737488351232) :
    Calls Tryz.prog 75 #[.slice A fs.length c] w fun e w' => ∃ v, e = .returned v ∧ FilesAt w' w.heap.size v fs ∧ Below w.heap.size w w' := by
  obtain ⟨i5, hi5, hx0, hx1, hx2⟩ := info_parts byteInfo
  obtain ⟨iF, hiF, hz0, hz1, hz2⟩ := info_parts fileInfo
  have HIN := Lib.hid hin
  have HSP := Lib.hid hsp
  have HTOG := Lib.hid (fun (k : Nat) (f : File) (h : fs[k]? = some f) => Nat.le_trans (Drv.total_get fs h) htot)
  obtain ⟨m, hm⟩ : ∃ m, m = fs.length := ⟨_, rfl⟩
  have HM := Lib.hid hm
  rw [← hm] at hfs ⊢
  clear hin hsp htot hm
  go_enter Tryz.func75, Tryz.ntmps75
  go_wp2
  go_loopw [3, 4] (fun s i wr => ∃ k : Nat, k ≤ m ∧ i = .int .i64 k ∧ FilesAt wr w.heap.size s (fs.take k) ∧ Below w.heap.size w wr) (fun _ i _ => m - (intOf i).toNat)
  case atStart => exact ⟨0, Nat.zero_le _, rfl, FilesAt.nil _ _, Below.refl _ _⟩
  case round =>
    obtain ⟨k, hk, rfl, ⟨vs, hvl, hown, hdat⟩, hbel⟩ := hrel
    have hszz : w.heap.size ≤ wr.heap.size := hbel.size
    have hik : (fs.take k).length = k := by rw [List.length_take, ← HM.out]; omega
    rw [hik] at hown hvl
    obtain ⟨a3, c3, rfl, _⟩ := own_shape hown
    have HB := Lib.hid hbel
    by_cases hlt : k < m
    · obtain ⟨f, hf⟩ : ∃ f, fs[k]? = some f := ⟨_, List.getElem?_eq_getElem (by rw [← HM.out]; exact hlt)⟩
      obtain ⟨u, hu⟩ : ∃ u, vals[k]? = some u := ⟨_, List.getElem?_eq_getElem (by rw [HIN.out.len, ← HM.out]; exact hlt)⟩
      obtain ⟨a, cf, rfl, hda⟩ := HIN.out.data k f u hf hu
      obtain ⟨t, bs⟩ := f
      obtain ⟨n, hn⟩ : ∃ n, n = bs.length := ⟨_, rfl⟩
      have hda' : Reads w w.heap.size 1 a n (bs.map B8) := by rw [hn]; exact hda
      have hu' : vals[k]? = some (.slice a n cf) := by rw [hn]; exact hu
      have hnb : n ≤ 140737488351232 := by rw [hn]; exact HTOG.out k _ hf
      obtain ⟨ad, hA, hbl, hcl⟩ := HIN.out.row.2 (by rw [← HM.out]; omega)
      obtain ⟨gA, oA, sA⟩ := ad
      have hsA : sA = none := HSP.out _ hA (by rw [← HM.out]; omega)
      subst hsA
      subst hA
      have hg2 := fileCells_get fs vals hf hu'
      have x0 : w.cell? ⟨gA, oA + k * 2, none⟩ = some (.string ⟨t.toArray⟩) := by have h := hcl _ _ hg2.1; rw [add_plain] at h; exact h
      have x1 : w.cell? ⟨gA, oA + k * 2 + 1, none⟩ = some (.slice a n cf) := by have h := hcl _ _ hg2.2; rw [add_plain] at h; exact h
      have y0 : wr.cell? ⟨gA, oA + k * 2, none⟩ = some (.string ⟨t.toArray⟩) := (hbel.cell (p := ⟨gA, oA + k * 2, none⟩) hbl).trans x0
      have y1 : wr.cell? ⟨gA, oA + k * 2 + 1, none⟩ = some (.slice a n cf) := (hbel.cell (p := ⟨gA, oA + k * 2 + 1, none⟩) hbl).trans x1
      have HRD : Hid (∀ W, Below w.heap.size w W → Reads W W.heap.size 1 a n (bs.map B8)) := Lib.hid fun W hW => ((hda'.below hW).more hW.size)
      have HQ : Hid (∀ W, Below w.heap.size w W → W.cell? ⟨gA, oA + k * 2, none⟩ = some (.string ⟨t.toArray⟩) ∧ W.cell? ⟨gA, oA + k * 2 + 1, none⟩ = some (.slice a n cf)) := Lib.hid fun W hW => ⟨(hW.cell (p := ⟨gA, oA + k * 2, none⟩) hbl).trans x0, (hW.cell (p := ⟨gA, oA + k * 2 + 1, none⟩) hbl).trans x1⟩
      have HST : Hid (fs.take (k + 1) = fs.take k ++ [(t, bs)]) := Lib.hid (by rw [List.take_add_one, hf]; rfl)
      have HOWN := Lib.hid hown
      have HDAT := Lib.hid hdat
      have HVL := Lib.hid hvl
      have HIK := Lib.hid hik
      have HN := Lib.hid hn
      have HM63 : Hid (k + 1 ≤ maxLen) := Lib.hid (by simp only [maxLen]; omega)
      have HB40 : Hid ((k + 1) * 40 ≤ 140737488355328) := Lib.hid (by omega)
      have HN63 : Hid (0 + n ≤ maxLen) := Lib.hid (by simp only [maxLen]; omega)
      have HB8 : Hid (∀ u ∈ bs.map B8, u.oneCell' = true) := by intro u hu; simp only [List.mem_map] at hu; obtain ⟨b, _, rfl⟩ := hu; rfl
      have hk0 : (0 : Int) ≤ (k : Int) := by omega
      have hk1 : (k : Int) < (m : Int) := by omega
      clear hown hdat hvl hbel x0 x1 hf hu hu' hda hda' hcl hg2 hik hn
      go_wp2
      go_region_held3 (fun w' => w'.cell? ⟨gA, oA + k * 2, none⟩ = some (.string ⟨t.toArray⟩) ∧ w'.cell? ⟨gA, oA + k * 2 + 1, none⟩ = some (.slice a n cf)) (first | go_keep | exact HQ.out _ HBW.out | exact HQ.out _ (HBA.out _) | exact HQ.out _ HBZ.out) ((first
        | (refine step_append_any _ (by rfl) (.const (.slice none 0 0)) (.tmp 21) 46 (by rfl) w.heap.size 5 i5 _ 1 1 Tryz.underlying46 hi5 hx0 hx1 hx2 rfl (by omega) (.slice none 0 0) 0 [] (by rfl) (World.ownsRow_nil _ _ _ _) wr.heap.size a n cf (bs.map B8) (by rfl) (HRD.out wr HB.out).drew HB8.out HN63.out (by omega) (by first | exact hszz | omega) ?_; intro v2 w2 hown2 hg2 hat2; obtain ⟨a2, c2, rfl, _⟩ := own_shape hown2; rw [Nat.zero_add, List.nil_append] at hown2; have HO2 := Lib.hid hown2; have HBW : Hid (Below w.heap.size w w2) := Lib.hid ((below_drew1 HB.out).grown hg2 (by first | exact hszz | omega) (fun q hq => by simp [Value.ownBlock] at hq)); have hs2 : wr.heap.size ≤ w2.heap.size := hg2.size; have HBA : Hid (∀ o, Below w.heap.size w (w2.alloc o)) := Lib.hid (fun o => HBW.out.alloc (Nat.le_trans hszz hs2) o); have HOW2 : Hid (w2.ownsRow w.heap.size 171 2 (.slice a3 k c3) k (fileCells (fs.take k) vs)) := Lib.hid ((row_drew HOWN.out).kept hg2 (own_or_none _)); have HKD : Hid (∀ (k' : Nat) (f : File) (u : Value), (fs.take k)[k']? = some f → vs[k']? = some u → w2.ownsRow w.heap.size 5 1 u f.2.length (f.2.map B8)) := Lib.hid (fun k' f u hf hu => (row_drew (HDAT.out k' f u hf hu)).kept hg2 (own_or_none _)); clear hown2 hg2 hat2)
        | (refine step_append_any _ (by rfl) (.tmp 11) (.tmp 24) 60 (by rfl) w.heap.size 171 iF _ 2 40 Tryz.underlying60 hiF hz0 hz1 hz2 rfl (by omega) (.slice a3 k c3) k _ (by rfl) (HOW2.out.alloc _) (w2.heap.size + 1) (some ⟨w2.heap.size, 0, none⟩) 1 1 [.string ⟨t.toArray⟩, .slice a2 n c2] (by rfl) (by exact reads_blk (t := 171) (blk_last _ _ _ _ rfl) (by omega) rfl) (by intro u hu; simp at hu; rcases hu with rfl | rfl <;> rfl) HM63.out HB40.out (by rw [alloc_size]; omega) ?_; intro v3 w3 hown3 hg3 hat3; obtain ⟨a4, c4, rfl, _⟩ := own_shape hown3; have HOWN3 := Lib.hid hown3; have HG3 : Hid ((w2.alloc (.cells #[.string ⟨t.toArray⟩, .slice a2 n c2] 171)).grownBy w3 (Value.slice a3 k c3).ownBlock) := Lib.hid hg3; have HBZ : Hid (Below w.heap.size w w3) := Lib.hid ((HBA.out _).grown hg3 (by rw [alloc_size]; omega) (fun q hq => (HOWN.out.lt q hq).1)); clear hown3 hg3 hat3)
        | fail))
      all_goals (
        go_wp2
        go_roundw
        case rel =>
          have hdl : bs.length = n := HN.out.symm
          have hrow2 : w3.ownsRow w.heap.size 5 1 (.slice a2 n c2) n (bs.map B8) :=
            (HO2.out.alloc _).kept HG3.out (own_ne (w := w2.alloc (.cells #[.string ⟨t.toArray⟩, .slice a2 n c2] 171)) (HO2.out.alloc _) (HOW2.out.alloc _) (by decide))
          refine ⟨k + 1, by omega, by go_num, ?_, HBZ.out⟩
          rw [HST.out]
          refine FilesAt.snoc (vals := vs) (u := .slice a2 n c2) (by rw [HVL.out, HIK.out]) (fun k' f u hf hu => ?_) (by rw [HIK.out]; exact HOWN3.out) (by show w3.ownsRow _ _ _ _ bs.length _; rw [hdl]; exact hrow2)
          have := HKD.out k' f u hf hu
          exact (this.alloc _).kept HG3.out (own_ne (w := w2.alloc (.cells #[.string ⟨t.toArray⟩, .slice a2 n c2] 171)) (this.alloc _) (HOW2.out.alloc _) (by decide))
        case measure => simp [intOf]; omega)
    · go_wp2
      go_ret
      have hk2 : fs.take k = fs := List.take_of_length_le (by rw [← HM.out]; omega)
      rw [hk2] at hown hdat
      refine ⟨_, rfl, ⟨vs, by rw [hvl, ← HM.out]; omega, ?_, hdat⟩, hbel⟩
      rw [← HM.out, show m = k by omega]; exact hown
end Go.Proofs.YtcbebefdbdppdaaGreat
