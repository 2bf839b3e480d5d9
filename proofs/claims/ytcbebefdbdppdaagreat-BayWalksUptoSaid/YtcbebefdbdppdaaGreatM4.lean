/- Contracts of the drive: what is asked of it without a change: names, List, Used, Pending, Loose, Read; and bytes.Clone as they use it.; Contract of the drive's directories: a change is made.; Contract of the drive: a change is made in what stands; it is pending. -/
import Derived.Test.YtcbebefdbdppdaaGreatM2
import Derived.Test.YtcbebefdbdppdaaGreatShelf
import Derived.WalkSpells
import Derived.Deep.RegionWith
namespace Go.Proofs.YtcbebefdbdppdaaGreat
open Go.RowKit Go.Maps Go.Sort
def dnames (D : Dir) : List Nm := (strKeys D).mergeSort leB
theorem leB_total (a b : Nm) : (leB a b || leB b a) = true := by
  simp only [Bool.or_eq_true, decide_eq_true_eq]; exact List.le_total a b
theorem leB_trans (a b c : Nm) (h1 : leB a b = true) (h2 : leB b c = true) : leB a c = true := by
  simp only [decide_eq_true_eq] at *; exact List.le_trans h1 h2
theorem mergeSort_perm_eq {l m : List Nm} (h : l.Perm m) : l.mergeSort leB = m.mergeSort leB :=
  List.Perm.eq_of_pairwise (le := fun a b => leB a b = true) (fun _ _ _ _ h1 h2 => List.le_antisymm (of_decide_eq_true h1) (of_decide_eq_true h2))
    (List.pairwise_mergeSort leB_trans leB_total l) (List.pairwise_mergeSort leB_trans leB_total m)
    ((List.mergeSort_perm l leB).trans (h.trans (List.mergeSort_perm m leB).symm))
theorem encStr_strV : Go.Proofs.encStr = strV := by funext s; simp [Go.Proofs.encStr, strV]
set_option maxHeartbeats 1000000 in
theorem names_any (b : Nat) (D : Dir) (addr : List Nat) (w : World) (hd : DirAt w addr b D) (hsz : size D ≤ 2199023255552) :
    Calls Tryz.prog 80 #[.map (some b)] w fun e w' => ∃ v, e = .returned v ∧ w'.ownsRow w.heap.size 9 1 v (dnames D).length ((dnames D).map strV) ∧ Below w.heap.size w w' := by
  refine (callsIn_wide (n := 6)).1 ?_
  have hfK : Fence.wide.fn 142 := trivial
  have hfS : Fence.wide.fn 141 := trivial
  have h1 : Maps.size D ≤ maxLen := by unfold maxLen; omega
  have h2 : Maps.size D * 16 ≤ 140737488355328 := by omega
  refine callsIn_of_wp Tryz.func80 rfl trivial ?_ rfl
  simp only [Tryz.ntmps80, List.size_toArray, List.length_cons, List.length_nil, Nat.reduceAdd, Nat.reduceSub, Array.replicate_succ, Array.replicate_zero, List.push_toArray, List.append_toArray, List.nil_append, List.cons_append]
  gi_wp2_with (first
    | (gi_at_call 142; refine (Tryz.maps_Keys_142 _ _).mono ?_; rintro e w' ⟨rfl, rfl⟩)
    | (gi_at_call 141; refine (Tryz.slices_Sorted_keys_141_142 b (size D) D (elemR addr) w hd h1 h2).mono ?_; rintro e w' ⟨v, ss, rfl, hS, hrow, hnil, hb⟩))
  go_ret
  have hlen : (dnames D).length = ss.length := by rw [dnames, (List.mergeSort_perm _ _).length_eq, hS.length_eq]
  refine ⟨v, rfl, ?_, ((Below.refl _ w).alloc (Nat.le_refl _) _).trans (hb.mono (by simp))⟩
  have hr := ownsRow_base_a (base' := w.heap.size) hrow (by simp)
  rw [encStr_strV, mergeSort_perm_eq hS] at hr
  rw [hlen]; exact hr
theorem B8_ints (bs : List UInt8) : (bs.map fun b => (b.toNat : Int)).map (Value.int .u8) = bs.map B8 := by rw [List.map_map]; rfl
theorem clone_any (A : Option Addr) (n c : Nat) (bs : List UInt8) (w : World) (B : Nat) (hr : Reads w B 1 A n (bs.map B8)) (hbig : n ≤ 140737488355328) :
    Calls Tryz.prog 79 #[.slice A n c] w fun e w' => ∃ v, e = .returned v ∧ w'.ownsRow w.heap.size 5 1 v n (bs.map B8) ∧ Below w.heap.size w w' := by
  have hlen : bs.length = n := by have := hr.1; simpa using this
  cases A with
  | none =>
    have hn : n = 0 := by
      rcases Nat.eq_zero_or_pos n with h | h
      · exact h
      · obtain ⟨ad, e, _⟩ := hr.2 h; cases e
    subst hn
    have hbs : bs = [] := List.eq_nil_of_length_eq_zero hlen
    subst hbs
    refine (Any.bytes_Clone_nil Tryz.laysClone 0 c w).mono ?_
    rintro e w' ⟨rfl, rfl⟩
    exact ⟨_, rfl, World.ownsRow_nil _ _ _ _, Below.refl _ _⟩
  | some a =>
    refine (Any.bytes_Clone_at Tryz.laysClone a n c (bs.map fun b => (b.toNat : Int)) w (by simpa using hlen) hbig (fun i hi => ?_)).mono ?_
    · obtain ⟨ad, e, _, hc⟩ := hr.2 (by omega)
      injection e with e; subst e
      have hib : i < bs.length := by omega
      have := hc i (B8 bs[i]) (by simp [hib])
      rw [this]; simp [B8, List.getD, hib]
    · rintro e w' ⟨v, rfl, ho, _, hb⟩
      exact ⟨v, rfl, by rw [← B8_ints]; exact ho, hb⟩
theorem list_any (p : Nat) (S : Drv) (addr : List Nat) (F : Nat → Prop) (w : World) (hd : DrA w p S addr F) (hsz : size S.now ≤ 2199023255552) :
    Calls Tryz.prog 265 #[.pointer (some ⟨p, 0, none⟩)] w fun e w' =>
      ∃ v, e = .returned (.tuple #[v, .int .i64 0]) ∧ w'.ownsRow w.heap.size 9 1 v (dnames S.now).length ((dnames S.now).map strV) ∧ Below w.heap.size w w' := by
  obtain ⟨L, rfl, hD, _⟩ := hd
  have h2 : w.cell? ⟨p, 2, none⟩ = some (.map (some L.nowM)) := hD.head.cell 2
  have HN := Lib.hid hD.now
  have HS := Lib.hid hsz
  clear hD hsz
  go_enter Tryz.func265, Tryz.ntmps265
  go_wp2_with fail
  refine (names_any _ _ _ _ HN.out HS.out).mono ?_
  rintro e w' ⟨v, rfl, ho, hb⟩
  have HO := Lib.hid ho
  have HB := Lib.hid hb
  clear ho hb
  go_wp2
  go_ret2
  exact ⟨v, rfl, HO.out, HB.out⟩
end Go.Proofs.YtcbebefdbdppdaaGreat
namespace Go.Proofs.YtcbebefdbdppdaaGreat
open Go.RowKit Go.Maps Go.WideMaps
theorem chg_get (addr : List Nat) : ∀ (c : List Stp) (k : Nat) (s : Stp), c[k]? = some s → (chgCells addr c)[k * 2]? = some (strV s.1) ∧ (chgCells addr c)[k * 2 + 1]? = some (ptrO addr s.2)
  | [], k, s, h => by simp at h
  | x :: c, 0, s, h => by simp at h; subst h; simp [chgCells]
  | x :: c, k + 1, s, h => by
    have := chg_get addr c k s (by simpa using h)
    rw [show (k + 1) * 2 = k * 2 + 2 by omega]
    simpa [chgCells] using this
theorem applyC_snoc (D : Dir) (c : List Stp) (s : Stp) : applyC D (c ++ [s]) = applyStp (applyC D c) s := by simp [applyC, List.foldl_append]
theorem size_del_le {D : Dir} (h : Tidy D) (k : Lit) : size (D.del k) ≤ size D := by have := size_del (k := k) h; split at this <;> omega
theorem size_put_le {D : Dir} (h : Tidy D) (k : Nm) (d : DataW Unit) : size (D.put (key k) d) ≤ size D + 1 := by rw [size_put h]; split <;> omega
theorem applyStp_tidy {D : Dir} (h : Tidy D) (s : Stp) : Tidy (applyStp D s) ∧ size (applyStp D s) ≤ size D + 1 := by
  unfold applyStp
  split
  · exact ⟨h.del _, by have := size_del_le h (key s.1); omega⟩
  · exact ⟨h.put (isKey _) _, size_put_le h _ _⟩
theorem applyC_tidy : ∀ (c : List Stp) {D : Dir}, Tidy D → Tidy (applyC D c) ∧ size (applyC D c) ≤ size D + c.length
  | [], D, h => ⟨h, by simp [applyC]⟩
  | s :: c, D, h => by
    have h1 := applyStp_tidy h s
    have h2 := applyC_tidy c h1.1
    exact ⟨h2.1, by have e : applyC D (s :: c) = applyC (applyStp D s) c := rfl
                    rw [e, List.length_cons]; omega⟩
theorem strV_keys (n : Nm) (hn : n.length ≤ maxLen) : keyOf Tryz.prog 9 (.string ⟨n.toArray⟩) = some (key n) :=
  keyOf_string_mk Tryz.underlying9 (s := ⟨n.toArray⟩) (by simpa [ByteArray.size] using hn)
set_option maxHeartbeats 1000000 in
theorem apply_any (b g : Nat) (D : Dir) (addr : List Nat) (c : List Stp) (w : World) (hd : DirAt w addr b D) (hb : Blk w g 240 (chgCells addr c).toArray) (hnd : addr.Nodup) (hok : okC addr c)
    (hsz : size D + c.length ≤ 2199023255552) :
    Calls Tryz.prog 81 #[.map (some b), .slice (some ⟨g, 0, none⟩) c.length c.length] w fun e w' =>
      e = .returned (.tuple #[]) ∧ DirAt w' addr b (applyC D c) ∧ Touch (· = b) w w' := by
  have HD := Lib.hid hd
  have HB := Lib.hid hb
  have HOK := Lib.hid hok; clear hok
  have htid := Lib.hid hd.tidy
  have hbl := hd.lt
  have hgl := hb.lt
  have hgb : g ≠ b := by
    rintro rfl
    obtain ⟨es, clock, h1, _⟩ := hd
    unfold Blk at hb
    rw [h1] at hb; injection hb with hb; cases hb
  have hcl : c.length ≤ 2199023255552 := by omega
  have HSZ := Lib.hid hsz; clear hsz
  clear hd hb
  generalize hlen : c.length = len at *
  have HL := Lib.hid hlen; clear hlen
  go_enter Tryz.func81, Tryz.ntmps81
  go_wp2
  go_loopw [8] (fun s wr => ∃ k : Nat, k ≤ len ∧ s = .int .i64 k ∧ DirAt wr addr b (applyC D (c.take k)) ∧ Touch (· = b) w wr) (fun s _ => len - (intOf s).toNat)
  case atStart => exact ⟨0, Nat.zero_le _, rfl, HD.out, Touch.refl _ _⟩
  case round =>
    obtain ⟨k, hk, rfl, hdk, htk⟩ := hrel
    have HDK := Lib.hid hdk; clear hdk
    have HTK := Lib.hid htk; clear htk
    have hszr : w.heap.size ≤ wr.heap.size := HTK.out.size
    by_cases hlt : k < len
    · obtain ⟨⟨nm, to⟩, hst⟩ : ∃ s, c[k]? = some s := ⟨c[k]'(by rw [HL.out]; exact hlt), List.getElem?_eq_getElem _⟩
      obtain ⟨hnm, hto⟩ := HOK.out _ (List.mem_of_getElem? hst)
      have HS := Lib.hid (show applyC D (c.take (k + 1)) = applyStp (applyC D (c.take k)) (nm, to) from by
        rw [List.take_add_one, hst, Option.toList_some, applyC_snoc])
      obtain ⟨c1, c2⟩ := chg_get addr c k _ hst
      have hblk : wr.heap[g]? = some (.cells (chgCells addr c).toArray 240 (0, 0)) := (HTK.out.block g hgl hgb).trans HB.out
      have x1 : wr.cell? ⟨g, k * 2, none⟩ = some (.string ⟨nm.toArray⟩) := by rw [Blk.cell hblk]; simpa [strV] using c1
      have x2 : wr.cell? ⟨g, k * 2 + 1, none⟩ = some (ptrO addr to) := by rw [Blk.cell hblk]; simpa using c2
      have htsz := (applyC_tidy (c.take k) htid.out)
      have hts : size (applyC D (c.take k)) < maxLen := by
        have h1 := htsz.2
        have h3 := HSZ.out
        have h2 : (c.take k).length ≤ len := by rw [← HL.out]; exact List.length_take_le' _ _
        unfold maxLen; omega
      have HTS := Lib.hid hts
      have HST := Lib.hid hst
      clear c1 c2 hblk htsz hts hst
      cases to with
      | none =>
        simp only [ptrO] at x2
        go_wp2_with (at_delete; refine wpList_delete_own _ rfl _ _ 135 9 rfl 147 dirKeyed Tryz.underlying135 (elemR addr) b _ _ rfl (World.ownsMap.alloc HDK.out _) _ _ rfl (strV_keys nm hnm) ?_; intro w1 hown1 hturn1)
        have hd1 : DirAt w1 addr b (applyC D (c.take (k + 1))) := by rw [HS.out]; exact .of hown1
        have ht1 : Touch (· = b) w w1 := (HTK.out.trans (Touch.alloc _ _)).trans (Touch.of_grown hturn1.grown (fun q hq => by injection hq with hq; exact .inl hq.symm))
        clear hown1 hturn1
        go_wp2
        go_roundw
        case rel => exact ⟨k + 1, by omega, by go_num, hd1, ht1⟩
        case measure => simp [intOf]; omega
      | some i =>
        have hi : i < addr.length := hto i rfl
        simp only [ptrO] at x2
        go_wp2_with (at_mapUpdate; refine wpList_mapUpdate_own _ rfl _ _ _ 135 rfl 9 147 dirKeyed Tryz.underlying135 (elemR addr) b _ _ rfl (World.ownsMap.alloc HDK.out _) HTS.out _ _ _ rfl rfl (strV_keys nm hnm) (num i) [] (elemR_ptr hi hnd) ?_; intro w1 hown1 hgrow1)
        have hd1 : DirAt w1 addr b (applyC D (c.take (k + 1))) := by rw [HS.out]; exact .of hown1
        have ht1 : Touch (· = b) w w1 := (HTK.out.trans (Touch.alloc _ _)).trans (Touch.of_grown hgrow1 (fun q hq => by injection hq with hq; exact .inl hq.symm))
        clear hown1 hgrow1
        go_wp2
        go_roundw
        case rel => exact ⟨k + 1, by omega, by go_num, hd1, ht1⟩
        case measure => simp [intOf]; omega
    · have hkl : k = len := by omega
      subst hkl
      go_wp2
      go_end0
      exact ⟨rfl, by have := HDK.out; rwa [List.take_of_length_le (by rw [HL.out]; exact Nat.le_refl _)] at this, HTK.out⟩
end Go.Proofs.YtcbebefdbdppdaaGreat
namespace Go.Proofs.YtcbebefdbdppdaaGreat
open Go.RowKit Go.Maps Go.WideMaps
theorem snoc_ind {α : Type} {P : List α → Prop} (h0 : P []) (h1 : ∀ l x, P l → P (l ++ [x])) (l : List α) : P l := by
  have h : ∀ l : List α, P l.reverse := fun l => by
    induction l with
    | nil => exact h0
    | cons x l ih => rw [List.reverse_cons]; exact h1 _ _ ih
  have := h l.reverse
  rwa [List.reverse_reverse] at this
theorem Drv.chAll_snoc (S : Drv) (c : List Stp) (s : Stp) : S.chAll (c ++ [s]) = (S.chAll c).chStp s := by simp [Drv.chAll, List.foldl_append]
theorem Drv.chAll_bodies (S : Drv) : ∀ c : List Stp, (S.chAll c).bodies = S.bodies ∧ (S.chAll c).room = S.room ∧ (S.chAll c).kept = S.kept ∧ (S.chAll c).pending = S.pending := by
  refine snoc_ind ⟨rfl, rfl, rfl, rfl⟩ fun c s ih => ?_
  rw [Drv.chAll_snoc]; exact ih
theorem Drv.chAll_now (S : Drv) : ∀ c : List Stp, (S.chAll c).now = applyC S.now c := by
  refine snoc_ind rfl fun c s ih => ?_
  rw [Drv.chAll_snoc, applyC_snoc, ← ih]; rfl
theorem Drv.len_same {S T : Drv} (h : T.bodies = S.bodies) (i : Nat) : T.len i = S.len i := by unfold Drv.len Drv.body; rw [h]
theorem Drv.lenO_same {S T : Drv} (h : T.bodies = S.bodies) (o : Option Nat) : T.lenO o = S.lenO o := by
  cases o with
  | none => rfl
  | some i => simp only [Drv.lenO, Drv.len_same h]
theorem Drv.lenO_bd {S : Drv} {M : Nat} (h : ∀ i, S.len i ≤ M) (o : Option Nat) : 0 ≤ S.lenO o ∧ S.lenO o ≤ M := by
  cases o with
  | none => simp [Drv.lenO]
  | some i => have := h i; simp only [Drv.lenO]; omega
theorem Drv.chAll_used (S : Drv) {M : Nat} (h : ∀ i, S.len i ≤ M) : ∀ c : List Stp, S.used - c.length * M ≤ (S.chAll c).used ∧ (S.chAll c).used ≤ S.used + c.length * M := by
  refine snoc_ind (by simp [Drv.chAll]) fun c s ih => ?_
  · rw [Drv.chAll_snoc]
    have hb := (Drv.chAll_bodies S c).1
    have h1 := Drv.lenO_bd h (dget (S.chAll c).now s.1)
    have h2 := Drv.lenO_bd h s.2
    rw [← Drv.lenO_same hb] at h1 h2
    have e : ((S.chAll c).chStp s).used = (S.chAll c).used - (S.chAll c).lenO (dget (S.chAll c).now s.1) + (S.chAll c).lenO s.2 := rfl
    have hm : (((c ++ [s]).length : Nat) : Int) * M = (c.length : Int) * M + M := by
      rw [List.length_append, List.length_singleton, Int.natCast_add, Int.add_mul]; omega
    rw [e, hm]
    omega
section
variable {w w' : World} {p : Nat} {S : Drv} {L : Lay}
theorem DrvAt.setUsed (h : DrvAt w p S L) (u : Int) : DrvAt (w.setCell ⟨p, 1, none⟩ (.int .i64 u)) p { S with used := u } L := by
  have far : ∀ k, k ≠ p → (w.setCell ⟨p, 1, none⟩ (.int .i64 u)).heap[k]? = w.heap[k]? := fun k hk => Below.heap_setCell w _ _ k hk
  have np : ∀ k, L.foot p k → k ≠ p → (w.setCell ⟨p, 1, none⟩ (.int .i64 u)).heap[k]? = w.heap[k]? := fun k _ hk => far k hk
  have dm : ∀ {b : Nat} {D : Dir}, DirAt w L.addr b D → b ≠ p := by
    rintro b D ⟨es, clock, h1, _⟩ rfl
    have := h.head; unfold Blk at this; rw [h1] at this; injection this with this; cases this
  have db : ∀ {g : Nat} {t : TypeId} {cs : Array Value}, Blk w g t cs → t ≠ 138 → g ≠ p := fun h1 hne => h1.ne_ h.head hne
  have dr : ∀ {base : Nat} {e : TypeId} {n : Nat} {v : Value} {xs : List Value}, w.ownsRow base e 1 v n xs → e ≠ 138 → ∀ k, v.ownBlock = some k → k ≠ p := by
    intro base e n v xs h1 hne k hk e'
    exact own_blk_ne h1 h.head hne (by rw [hk, e'])
  exact {
    head := h.head.set_ 1 _
    now := h.now.keep (far _ (dm h.now))
    kept := h.kept.keep (far _ (dm h.kept))
    ne := h.ne, nodup := h.nodup, la := h.la, lv := h.lv
    body := fun i hi => (far _ (db (h.body i hi) (by decide))).trans (h.body i hi)
    data := fun i hi => ownsRow_keep (h.data i hi) fun k hk => far k (dr (h.data i hi) (by decide) k hk)
    rows := h.rows
    pend := ownsRow_keep h.pend fun k hk => far k (dr h.pend (by decide) k hk)
    li := h.li, pok := h.pok
    inner := fun j hj => (far _ (db (h.inner j hj) (by decide))).trans (h.inner j hj) }
theorem DrvAt.drew (h : DrvAt w p S L) : DrvAt w.drew p S L := h.keep fun _ _ => rfl
theorem DrvAt.setUsed1 (h : DrvAt w p S L) (a : Int) : DrvAt (w.setCell ⟨p, 1, none⟩ (.int .i64 a)).drew p { S with used := a } L := (h.setUsed a).drew
theorem DrvAt.setUsed2 (h : DrvAt w p S L) (a b : Int) : DrvAt ((w.setCell ⟨p, 1, none⟩ (.int .i64 a)).setCell ⟨p, 1, none⟩ (.int .i64 b)).drew.drew p { S with used := b } L := by
  have h1 := h.setUsed a
  have h2 := h1.setUsed b
  exact h2.drew.drew
theorem DrvAt.setNow (h : DrvAt w p S L) {D : Dir} (hd : DirAt w' L.addr L.nowM D) (ht : Touch (· = L.nowM) w w') : DrvAt w' p { S with now := D } L := by
  have far : ∀ k, L.foot p k → k ≠ L.nowM → w'.heap[k]? = w.heap[k]? := fun k hf hk => ht.block k (h.foot_lt hf) hk
  have dm : ∀ {g : Nat} {t : TypeId} {cs : Array Value}, Blk w g t cs → g ≠ L.nowM := by
    intro g t cs h1 e
    obtain ⟨es, clock, h2, _⟩ := h.now
    unfold Blk at h1; rw [e, h2] at h1; injection h1 with h1; cases h1
  have dr : ∀ {base : Nat} {e : TypeId} {n : Nat} {v : Value} {xs : List Value}, w.ownsRow base e 1 v n xs → ∀ k, v.ownBlock = some k → k ≠ L.nowM := by
    intro base e n v xs h1 k hk e'
    rcases h1.2 with ⟨rfl, _⟩ | ⟨g, cap, cur, rfl, _, hh, _⟩
    · simp [Value.ownBlock] at hk
    · have hg : g = k := by simpa [Value.ownBlock] using hk
      subst hg
      exact dm (t := e) (cs := cur) hh e'
  exact {
    head := (far _ (.inl rfl) (dm h.head)).trans h.head
    now := hd
    kept := h.kept.keep (far _ (.inr (.inr (.inl rfl))) (fun e => h.ne e.symm))
    ne := h.ne, nodup := h.nodup, la := h.la, lv := h.lv
    body := fun i hi => (far _ (.inr (.inr (.inr (.inl (getD_mem 0 (by rw [h.la]; exact hi)))))) (dm (h.body i hi))).trans (h.body i hi)
    data := fun i hi => ownsRow_keep (h.data i hi) fun k hk => far k (.inr (.inr (.inr (.inr (.inl ⟨_, getD_mem _ (by rw [h.lv]; exact hi), hk⟩))))) (dr (h.data i hi) k hk)
    rows := h.rows
    pend := ownsRow_keep h.pend fun k hk => far k (.inr (.inr (.inr (.inr (.inr (.inl hk)))))) (dr h.pend k hk)
    li := h.li, pok := h.pok
    inner := fun j hj => (far _ (.inr (.inr (.inr (.inr (.inr (.inr (getD_mem 0 (by rw [h.li]; exact hj)))))))) (dm (h.inner j hj))).trans (h.inner j hj) }
end
theorem map_there (w : World) (b : Nat) : (binOp .eql 135 (.map (some b)) (.map none)).run Tryz.prog w = .ok (.bool false) w :=
  run_eql_map_nil (P := Tryz.prog) w _ _ _ (some b) Tryz.underlying135
theorem ch_close {X Y w2 w : World} {p g : Nat} {T : Drv} {L : Lay} {F : Nat → Prop} {s : Stp} {cs : Array Value} (hE : DrvAt X p { T with used := (T.chStp s).used } L) (hTX : Touch F w X) (hF : ∀ k, L.foot p k → F k)
    (hbX : Blk X g 240 cs) (hXY : Below X.heap.size X Y) (hD2 : DirAt w2 L.addr L.nowM (applyC T.now [s])) (hT2 : Touch (· = L.nowM) Y w2) :
    DrvAt w2 p (T.chStp s) L ∧ Touch F w w2 ∧ Blk w2 g 240 cs := by
  have hEY : DrvAt Y p { T with used := (T.chStp s).used } L := hE.keep fun k hk => hXY.block k (hE.foot_lt hk)
  have hgm : g ≠ L.nowM := by
    intro e
    obtain ⟨es, clock, h2, _⟩ := hE.now
    unfold Blk at hbX; rw [e, h2] at hbX; injection hbX with hbX; cases hbX
  refine ⟨hEY.setNow hD2 hT2, (hTX.trans (Touch.of_below hXY)).trans (hT2.mono fun k _ hk => .inl (by rw [hk]; exact hF _ (.inr (.inl rfl)))), ?_⟩
  exact (hT2.block g (Nat.lt_of_lt_of_le hbX.lt hXY.size) hgm).trans ((hXY.block g hbX.lt).trans hbX)
theorem zip_snoc {α β γ : Type} (f : α → β → γ) : ∀ (l : List α) (m : List β) (a : α) (b : β), l.length = m.length → List.zipWith f (l ++ [a]) (m ++ [b]) = List.zipWith f l m ++ [f a b]
  | [], [], a, b, _ => rfl
  | x :: l, y :: m, a, b, h => by simp [zip_snoc f l m a b (by simpa using h)]
  | [], _ :: _, _, _, h => by simp at h
  | _ :: _, [], _, _, h => by simp at h
theorem getD_snoc_lt {α : Type} {l : List α} {a d : α} {j : Nat} (h : j < l.length) : (l ++ [a]).getD j d = l.getD j d := by
  simp only [List.getD]; rw [List.getElem?_append_left h]
theorem getD_snoc_eq {α : Type} {l : List α} {a d : α} : (l ++ [a]).getD l.length d = a := by simp [List.getD]
theorem DrvAt.setPend {w w1 : World} {p g : Nat} {S : Drv} {L : Lay} {c : List Stp} {v : Value} (h : DrvAt w p S L) (hg : Blk w g 240 (chgCells L.addr c).toArray)
    (ho : w1.ownsRow 0 175 1 v (S.pending.length + 1) (List.zipWith innerV L.inner S.pending ++ [innerV g c])) (hgr : w.grownBy w1 L.pv.ownBlock) (hok : okC L.addr c) :
    DrvAt (w1.setCell ⟨p, 4, none⟩ v) p { S with pending := S.pending ++ [c] } { L with pv := v, inner := L.inner ++ [g] } := by
  have e1 : ∀ {b : Nat} {D : Dir}, DirAt w L.addr b D → some b ≠ L.pv.ownBlock := by
    rintro b D ⟨es, clock, h1, _⟩ e
    rcases h.pend.2 with ⟨e2, _⟩ | ⟨g', cap, cur, e2, _, hh, _⟩
    · rw [e2] at e; simp [Value.ownBlock] at e
    · rw [e2] at e
      have : b = g' := by simpa [Value.ownBlock] using e
      subst this; rw [h1] at hh; injection hh with hh; cases hh
  have e2 : ∀ {b : Nat} {t : TypeId} {cs : Array Value}, Blk w b t cs → 175 ≠ t → some b ≠ L.pv.ownBlock := fun h1 hne e => own_blk_ne h.pend h1 hne e.symm
  have hp1 : Blk w1 p 138 #[.int .i64 S.room, .int .i64 S.used, .map (some L.nowM), .map (some L.keptM), L.pv] := h.head.grown hgr (e2 h.head (by decide))
  have far : ∀ k, k ≠ p → (w1.setCell ⟨p, 4, none⟩ v).heap[k]? = w1.heap[k]? := fun k hk => Below.heap_setCell w1 _ _ k hk
  have dm : ∀ {b : Nat} {D : Dir}, DirAt w1 L.addr b D → b ≠ p := by
    rintro b D ⟨es, clock, h1, _⟩ rfl
    unfold Blk at hp1; rw [h1] at hp1; injection hp1 with hp1; cases hp1
  have db : ∀ {g : Nat} {t : TypeId} {cs : Array Value}, Blk w1 g t cs → t ≠ 138 → Blk (w1.setCell ⟨p, 4, none⟩ v) g t cs := fun h1 hne => h1.far (p := ⟨p, 4, none⟩) (h1.ne_ hp1 hne) _
  have dr : ∀ {base : Nat} {e : TypeId} {n : Nat} {v' : Value} {xs : List Value}, w1.ownsRow base e 1 v' n xs → e ≠ 138 → (w1.setCell ⟨p, 4, none⟩ v).ownsRow base e 1 v' n xs := fun h1 hne =>
    ownsRow_keep h1 fun k hk => far k (fun e => own_blk_ne h1 hp1 hne (by rw [hk, e]))
  have mv : ∀ {b : Nat} {D : Dir}, DirAt w L.addr b D → DirAt (w1.setCell ⟨p, 4, none⟩ v) L.addr b D := fun h1 => by
    have h2 := h1.keep (hgr.block _ h1.lt (e1 h1))
    exact h2.keep (far _ (dm h2))
  exact {
    head := hp1.set_ 4 v
    now := mv h.now
    kept := mv h.kept
    ne := h.ne, nodup := h.nodup, la := h.la, lv := h.lv
    body := fun i hi => db ((h.body i hi).grown hgr (e2 (h.body i hi) (by decide))) (by decide)
    data := fun i hi => dr ((h.data i hi).kept hgr (own_ne (h.data i hi) h.pend (by decide))) (by decide)
    rows := h.rows
    pend := by
      have := dr ho (by decide)
      simpa [zip_snoc _ _ _ _ _ h.li] using this
    li := by simp [h.li]
    pok := fun c' hc' => by
      rcases List.mem_append.1 hc' with h1 | h1
      · exact h.pok c' h1
      · simp at h1; subst h1; exact hok
    inner := fun j hj => by
      by_cases e : j < S.pending.length
      · have h1 := db ((h.inner j e).grown hgr (e2 (h.inner j e) (by decide))) (by decide)
        have ea : (Lay.inr { L with pv := v, inner := L.inner ++ [g] } j) = L.inr j := getD_snoc_lt (by rw [h.li]; exact e)
        have eb : (S.pending ++ [c]).getD j [] = S.pending.getD j [] := getD_snoc_lt e
        show Blk _ (Lay.inr { L with pv := v, inner := L.inner ++ [g] } j) _ (chgCells L.addr ((S.pending ++ [c]).getD j [])).toArray
        rw [ea, eb]; exact h1
      · have ej : j = S.pending.length := by simp at hj; omega
        have h1 := db (hg.grown hgr (e2 hg (by decide))) (by decide)
        have ea : (Lay.inr { L with pv := v, inner := L.inner ++ [g] } j) = g := by rw [ej, ← h.li]; exact getD_snoc_eq
        have eb : (S.pending ++ [c]).getD j [] = c := by rw [ej]; exact getD_snoc_eq
        show Blk _ (Lay.inr { L with pv := v, inner := L.inner ++ [g] } j) _ (chgCells L.addr ((S.pending ++ [c]).getD j [])).toArray
        rw [ea, eb]; exact h1 }
end Go.Proofs.YtcbebefdbdppdaaGreat
