/- The document's directory: entries that rise by name, and say what a directory says. No program in sight.; How the document's drive lies in memory: one struct, rows of entries, of bodies, of bytes, of changes.; The document's directory, walked: find, set. -/
import Derived.Test.YtcbebefdbdppdaaGreatM39
import Derived.Test.YtcbebefdbdppdaaGreatM12
import Derived.Test.YtcbebefdbdppdaaGreatM35
import Derived.WalkLawsBesides
import Derived.Deep.DeepMust
namespace Go.Proofs.YtcbebefdbdppdaaGreat
open Go.RowKit Go.Maps Go.Sort
abbrev Ent := Nm × Nat
theorem nm_irrefl (a : Nm) : ¬ a < a := List.lt_irrefl a
theorem nm_trans {a b c : Nm} (h1 : a < b) (h2 : b < c) : a < c := List.lt_trans h1 h2
theorem nm_tri {a b : Nm} (h1 : ¬ a < b) (h2 : ¬ b < a) : a = b := List.le_antisymm (show ¬ b < a from h2) (show ¬ a < b from h1)
structure Ents (D : Dir) (l : List Ent) : Prop where
  rise : l.Pairwise fun a b => a.1 < b.1
  mem : ∀ s i, (s, i) ∈ l ↔ dget D s = some i
theorem rise_eq : ∀ {l m : List Ent}, (l.Pairwise fun a b => a.1 < b.1) → (m.Pairwise fun a b => a.1 < b.1) → (∀ e, e ∈ l ↔ e ∈ m) → l = m
  | [], [], _, _, _ => rfl
  | [], b :: m, _, _, h => absurd ((h b).2 (List.mem_cons_self ..)) (by simp)
  | a :: l, [], _, _, h => absurd ((h a).1 (List.mem_cons_self ..)) (by simp)
  | a :: l, b :: m, hl, hm, h => by
    obtain ⟨l1, l2⟩ := List.pairwise_cons.1 hl
    obtain ⟨m1, m2⟩ := List.pairwise_cons.1 hm
    have hab : a = b := by
      rcases List.mem_cons.1 ((h a).1 (List.mem_cons_self ..)) with e | ha
      · exact e
      · rcases List.mem_cons.1 ((h b).2 (List.mem_cons_self ..)) with e | hb
        · exact e.symm
        · exact absurd (nm_trans (l1 _ hb) (m1 _ ha)) (nm_irrefl _)
    subst hab
    rw [rise_eq l2 m2 fun e => ?_]
    constructor
    · intro he
      rcases List.mem_cons.1 ((h e).1 (List.mem_cons_of_mem _ he)) with e1 | h1
      · subst e1; exact absurd (l1 _ he) (nm_irrefl _)
      · exact h1
    · intro he
      rcases List.mem_cons.1 ((h e).2 (List.mem_cons_of_mem _ he)) with e1 | h1
      · subst e1; exact absurd (m1 _ he) (nm_irrefl _)
      · exact h1
theorem Ents.eq {D : Dir} {l m : List Ent} (h : Ents D l) (k : Ents D m) : l = m :=
  rise_eq h.rise k.rise fun e => by obtain ⟨s, i⟩ := e; rw [h.mem, k.mem]
theorem ents_empty : Ents (.map []) [] := ⟨List.Pairwise.nil, fun s i => by rw [dget_empty]; simp⟩
section
variable {D : Dir} {A M B : List Ent} {s : Nm}
theorem Ents.parts (h : Ents D (A ++ M ++ B)) : (A.Pairwise fun a b => a.1 < b.1) ∧ (B.Pairwise fun a b => a.1 < b.1) := by
  obtain ⟨h1, h2, _⟩ := List.pairwise_append.1 h.rise
  exact ⟨(List.pairwise_append.1 h1).1, h2⟩
theorem Ents.put (h : Ents D (A ++ M ++ B)) (ht : Tidy D) (h1 : ∀ e ∈ A, e.1 < s) (h2 : ∀ e ∈ M, e.1 = s) (h3 : ∀ e ∈ B, s < e.1) (i : Nat) : Ents (D.put (key s) (num i)) (A ++ (s, i) :: B) where
  rise := by
    obtain ⟨ha, hb⟩ := h.parts
    refine List.pairwise_append.2 ⟨ha, List.pairwise_cons.2 ⟨fun e he => h3 e he, hb⟩, fun a hA b hB => ?_⟩
    rcases List.mem_cons.1 hB with rfl | hB
    · exact h1 a hA
    · exact nm_trans (h1 a hA) (h3 b hB)
  mem := by
    intro t j
    by_cases e : t = s
    · subst e
      rw [dget_put_same ht.isMap]
      constructor
      · intro hm
        rcases List.mem_append.1 hm with hm | hm
        · exact absurd (h1 _ hm) (nm_irrefl _)
        · rcases List.mem_cons.1 hm with hm | hm
          · injection hm with _ hm; rw [hm]
          · exact absurd (h3 _ hm) (nm_irrefl _)
      · intro hm
        injection hm with hm
        subst hm
        exact List.mem_append_right _ (List.mem_cons_self ..)
    · rw [dget_put_other e, ← h.mem]
      simp only [List.mem_append, List.mem_cons]
      constructor
      · rintro (hm | hm | hm)
        · exact .inl (.inl hm)
        · injection hm with hm _; exact absurd hm e
        · exact .inr hm
      · rintro ((hm | hm) | hm)
        · exact .inl hm
        · exact absurd (h2 _ hm) e
        · exact .inr (.inr hm)
theorem Ents.del (h : Ents D (A ++ M ++ B)) (h1 : ∀ e ∈ A, e.1 < s) (h2 : ∀ e ∈ M, e.1 = s) (h3 : ∀ e ∈ B, s < e.1) : Ents (D.del (key s)) (A ++ B) where
  rise := by
    obtain ⟨ha, hb⟩ := h.parts
    exact List.pairwise_append.2 ⟨ha, hb, fun a hA b hB => nm_trans (h1 a hA) (h3 b hB)⟩
  mem := by
    intro t j
    by_cases e : t = s
    · subst e
      rw [dget_del_same]
      refine ⟨fun hm => ?_, fun hm => by cases hm⟩
      rcases List.mem_append.1 hm with hm | hm
      · exact absurd (h1 _ hm) (nm_irrefl _)
      · exact absurd (h3 _ hm) (nm_irrefl _)
    · rw [dget_del_other e, ← h.mem]
      simp only [List.mem_append]
      constructor
      · rintro (hm | hm)
        · exact .inl (.inl hm)
        · exact .inr hm
      · rintro ((hm | hm) | hm)
        · exact .inl hm
        · exact absurd (h2 _ hm) e
        · exact .inr hm
end
theorem Ents.snoc {D : Dir} {l : List Ent} (h : Ents D l) (ht : Tidy D) {s : Nm} (h1 : ∀ e ∈ l, e.1 < s) (i : Nat) : Ents (D.put (key s) (num i)) (l ++ [(s, i)]) :=
  Ents.put (M := []) (B := []) (by simpa using h) ht h1 (by simp) (by simp) i
def dents (D : Dir) : List Ent := (dnames D).map fun s => (s, (dget D s).getD 0)
theorem dents_length (D : Dir) : (dents D).length = size D := by unfold dents; rw [List.length_map, dnames_length]
theorem has_dnames {D : Dir} (ht : Tidy D) {s : Nm} (h : has D (key s) = true) : s ∈ dnames D := by
  obtain ⟨es, rfl, _⟩ := ht
  rw [(dnames_perm _).mem_iff]
  rw [has_eq, List.any_eq_true] at h
  obtain ⟨p, hp, e⟩ := h
  refine List.mem_map.2 ⟨p, hp, ?_⟩
  rw [sameKey_key e]; rfl
structure Sound (D : Dir) : Prop where
  tidy : Tidy D
  keys : NmKeys D
  full : Full D
theorem dnames_rise {D : Dir} (h : Sound D) : (dnames D).Pairwise (· < ·) := by
  have h1 : (dnames D).Pairwise fun a b => leB a b = true := List.pairwise_mergeSort leB_trans leB_total _
  have h2 := dnames_nodup h.keys h.tidy
  refine (h1.and h2).imp fun {a b} hab => ?_
  by_cases hlt : a < b
  · exact hlt
  · exact absurd (nm_tri hlt (show ¬ b < a from of_decide_eq_true hab.1)) hab.2
theorem dents_ents {D : Dir} (h : Sound D) : Ents D (dents D) where
  rise := by unfold dents; rw [List.pairwise_map]; exact dnames_rise h
  mem := by
    intro s i
    constructor
    · intro hm
      obtain ⟨t, ht, e⟩ := List.mem_map.1 hm
      injection e with e1 e2
      subst e1
      obtain ⟨j, hj⟩ := (h.full _ (mem_dnames h.keys h.tidy ht)).2
      rw [hj] at e2 ⊢
      rw [← e2]; rfl
    · intro hg
      refine List.mem_map.2 ⟨s, has_dnames h.tidy ?_, by rw [hg]; rfl⟩
      cases hh : has D (key s) with
      | true => rfl
      | false => rw [dget_none_of hh] at hg; cases hg
theorem Ents.dents {D : Dir} {l : List Ent} (h : Ents D l) (hs : Sound D) : l = dents D := h.eq (dents_ents hs)
theorem Sound.put {D : Dir} (h : Sound D) {s : Nm} (hs : s.length ≤ 1024) (i : Nat) : Sound (D.put (key s) (num i)) := ⟨h.tidy.put (isKey _) _, h.keys.put h.tidy _ _, h.full.put h.tidy hs i⟩
theorem Sound.del {D : Dir} (h : Sound D) (s : Nm) : Sound (D.del (key s)) := ⟨h.tidy.del _, h.keys.del h.tidy _, h.full.del s⟩
theorem sound_empty : Sound (.map []) := ⟨tidy_empty, fun p hp => (by cases hp), fun s h => (by cases h)⟩
theorem Sound.stp {D : Dir} (h : Sound D) (s : Stp) (hs : s.2.isSome = true → s.1.length ≤ 1024) : Sound (applyStp D s) := by
  obtain ⟨s, o⟩ := s
  cases o with
  | none => exact h.del s
  | some i => exact h.put (hs rfl) i
theorem Sound.app : ∀ (c : List Stp) {D : Dir}, Sound D → (∀ s ∈ c, s.2.isSome = true → s.1.length ≤ 1024) → Sound (applyC D c)
  | [], _, h, _ => h
  | s :: c, _, h, hc => Sound.app c (h.stp s (hc s (List.mem_cons_self ..))) fun t ht => hc t (List.mem_cons_of_mem _ ht)
theorem ents_get {D : Dir} {l : List Ent} (h : Ents D l) {k : Nat} {s : Nm} {i : Nat} (hk : l[k]? = some (s, i)) : dget D s = some i := (h.mem s i).1 (List.mem_of_getElem? hk)
theorem ents_none {D : Dir} {l : List Ent} (h : Ents D l) {s : Nm} (hk : ∀ e ∈ l, e.1 ≠ s) : dget D s = none := by
  cases hg : dget D s with
  | none => rfl
  | some i => exact absurd rfl (hk _ ((h.mem s i).2 hg))
end Go.Proofs.YtcbebefdbdppdaaGreat
namespace Go.Proofs.YtcbebefdbdppdaaGreat
open Go.RowKit Go.Maps
def intZ (n : Int) : Value := .int .i64 n
def numI : Option Nat → Int
  | none => -1
  | some i => i
theorem pair_get {α : Type} (f g : α → Value) : ∀ (l : List α) (k : Nat) (a : α), l[k]? = some a → (l.flatMap fun a => [f a, g a])[k * 2]? = some (f a) ∧ (l.flatMap fun a => [f a, g a])[k * 2 + 1]? = some (g a)
  | [], k, a, h => by simp at h
  | b :: l, 0, a, h => by simp at h; subst h; exact ⟨rfl, rfl⟩
  | b :: l, k + 1, a, h => by
    have := pair_get f g l k a (by simpa using h)
    rw [show (k + 1) * 2 = k * 2 + 1 + 1 by omega]
    simpa [List.flatMap_cons] using this
def entCells (l : List Ent) : List Value := l.flatMap fun e => [strV e.1, intZ (e.2 : Int)]
def chgEnts (c : List Stp) : List Value := c.flatMap fun s => [strV s.1, intZ (numI s.2)]
def bodCells (vals : List Value) (bs : List Body) : List Value := (vals.zip bs).flatMap fun x => [x.1, intZ (x.2.safe : Int)]
structure MLay where
  vb : Value
  vn : Value
  vk : Value
  vc : Value
  dat : List Value
  chg : List Value
def MLay.da (L : MLay) (i : Nat) : Value := L.dat.getD i (.slice none 0 0)
def MLay.ch (L : MLay) (i : Nat) : Value := L.chg.getD i (.slice none 0 0)
structure MRows (w : World) (S : Drv) (L : MLay) : Prop where
  bod : w.ownsRow 0 229 2 L.vb S.bodies.length (bodCells L.dat S.bodies)
  ld : L.dat.length = S.bodies.length
  data : ∀ i, i < S.bodies.length → w.ownsRow 0 5 1 (L.da i) (S.len i) ((S.body i).data.map B8)
  now : w.ownsRow 0 221 2 L.vn (dents S.now).length (entCells (dents S.now))
  kept : w.ownsRow 0 221 2 L.vk (dents S.kept).length (entCells (dents S.kept))
  chs : w.ownsRow 0 223 1 L.vc S.pending.length L.chg
  lc : L.chg.length = S.pending.length
  chg : ∀ j, j < S.pending.length → w.ownsRow 0 221 2 (L.ch j) (S.pending.getD j []).length (chgEnts (S.pending.getD j []))
def mhead (S : Drv) (L : MLay) : Array Value := #[.int .i64 S.room, L.vb, L.vn, L.vk, L.vc]
structure MdAt (w : World) (p : Nat) (S : Drv) (L : MLay) : Prop where
  head : Blk w p 226 (mhead S L)
  rows : MRows w S L
def MLay.rfoot (L : MLay) (k : Nat) : Prop := L.vb.ownBlock = some k ∨ L.vn.ownBlock = some k ∨ L.vk.ownBlock = some k ∨ L.vc.ownBlock = some k ∨ (∃ v ∈ L.dat, v.ownBlock = some k) ∨ ∃ v ∈ L.chg, v.ownBlock = some k
def MLay.foot (L : MLay) (p k : Nat) : Prop := k = p ∨ L.rfoot k
theorem da_mem {L : MLay} {i : Nat} (h : i < L.dat.length) : L.da i ∈ L.dat := getD_mem _ h
theorem ch_mem {L : MLay} {i : Nat} (h : i < L.chg.length) : L.ch i ∈ L.chg := getD_mem _ h
theorem MRows.keep {w w' : World} {S : Drv} {L : MLay} (h : MRows w S L) (hk : ∀ k, L.rfoot k → w'.heap[k]? = w.heap[k]?) : MRows w' S L where
  bod := ownsRow_keep h.bod fun k e => hk k (.inl e)
  ld := h.ld
  data i hi := ownsRow_keep (h.data i hi) fun k e => hk k (.inr (.inr (.inr (.inr (.inl ⟨_, da_mem (by rw [h.ld]; exact hi), e⟩)))))
  now := ownsRow_keep h.now fun k e => hk k (.inr (.inl e))
  kept := ownsRow_keep h.kept fun k e => hk k (.inr (.inr (.inl e)))
  chs := ownsRow_keep h.chs fun k e => hk k (.inr (.inr (.inr (.inl e))))
  lc := h.lc
  chg j hj := ownsRow_keep (h.chg j hj) fun k e => hk k (.inr (.inr (.inr (.inr (.inr ⟨_, ch_mem (by rw [h.lc]; exact hj), e⟩)))))
theorem MRows.lt {w : World} {S : Drv} {L : MLay} (h : MRows w S L) {k : Nat} (hk : L.rfoot k) : k < w.heap.size := by
  rcases hk with e | e | e | e | ⟨v, hv, e⟩ | ⟨v, hv, e⟩
  · exact (h.bod.lt k e).2
  · exact (h.now.lt k e).2
  · exact (h.kept.lt k e).2
  · exact (h.chs.lt k e).2
  · obtain ⟨i, hi, rfl⟩ := List.getElem_of_mem hv
    have h1 := h.data i (by rw [← h.ld]; exact hi)
    have e1 : L.da i = L.dat[i] := by simp [MLay.da, List.getD, hi]
    rw [e1] at h1
    exact (h1.lt k e).2
  · obtain ⟨i, hi, rfl⟩ := List.getElem_of_mem hv
    have h1 := h.chg i (by rw [← h.lc]; exact hi)
    have e1 : L.ch i = L.chg[i] := by simp [MLay.ch, List.getD, hi]
    rw [e1] at h1
    exact (h1.lt k e).2
theorem MRows.far {w : World} {S : Drv} {L : MLay} (h : MRows w S L) {p : Nat} {t : TypeId} {cs : Array Value} (hp : Blk w p t cs)
    (h1 : 229 ≠ t) (h2 : 5 ≠ t) (h3 : 221 ≠ t) (h4 : 223 ≠ t) : ¬ L.rfoot p := by
  rintro (e | e | e | e | ⟨v, hv, e⟩ | ⟨v, hv, e⟩)
  · exact own_blk_ne h.bod hp h1 e
  · exact own_blk_ne h.now hp h3 e
  · exact own_blk_ne h.kept hp h3 e
  · exact own_blk_ne h.chs hp h4 e
  · obtain ⟨i, hi, rfl⟩ := List.getElem_of_mem hv
    have h5 := h.data i (by rw [← h.ld]; exact hi)
    have e1 : L.da i = L.dat[i] := by simp [MLay.da, List.getD, hi]
    rw [e1] at h5
    exact own_blk_ne h5 hp h2 e
  · obtain ⟨i, hi, rfl⟩ := List.getElem_of_mem hv
    have h5 := h.chg i (by rw [← h.lc]; exact hi)
    have e1 : L.ch i = L.chg[i] := by simp [MLay.ch, List.getD, hi]
    rw [e1] at h5
    exact own_blk_ne h5 hp h3 e
theorem MdAt.keep {w w' : World} {p : Nat} {S : Drv} {L : MLay} (h : MdAt w p S L) (hk : ∀ k, L.foot p k → w'.heap[k]? = w.heap[k]?) : MdAt w' p S L :=
  ⟨(hk p (.inl rfl)).trans h.head, h.rows.keep fun k e => hk k (.inr e)⟩
theorem MdAt.lt {w : World} {p : Nat} {S : Drv} {L : MLay} (h : MdAt w p S L) {k : Nat} (hk : L.foot p k) : k < w.heap.size := by
  rcases hk with rfl | e
  · exact h.head.lt
  · exact h.rows.lt e
def Md (w : World) (p : Nat) (S : Drv) (F : Nat → Prop) : Prop := ∃ L, MdAt w p S L ∧ ∀ k, L.foot p k → F k
section
variable {w w' : World} {p : Nat} {S : Drv} {F G : Nat → Prop}
theorem Md.keep (h : Md w p S F) (ht : Touch G w w') (hd : ∀ k, F k → ¬G k) : Md w' p S F := by
  obtain ⟨L, h, hF⟩ := h
  exact ⟨L, h.keep fun k hk => ht.block k (h.lt hk) (hd k (hF k hk)), hF⟩
theorem Md.mono (h : Md w p S F) (hFG : ∀ k, F k → G k) : Md w p S G := by
  obtain ⟨L, h, hF⟩ := h; exact ⟨L, h, fun k hk => hFG k (hF k hk)⟩
theorem Md.below (h : Md w p S F) (hb : Below w.heap.size w w') : Md w' p S F := h.keep (Touch.of_below (F := fun _ => False) hb) fun _ _ h => h
theorem Md.lt (h : Md w p S F) : Md w p S fun k => F k ∧ k < w.heap.size := by
  obtain ⟨L, h, hF⟩ := h; exact ⟨L, h, fun k hk => ⟨hF k hk, h.lt hk⟩⟩
end
theorem row_set {w : World} {base size n p : Nat} {e t : TypeId} {v : Value} {xs : List Value} {cs : Array Value} (h : w.ownsRow base e size v n xs) (hp : Blk w p t cs) (hne : e ≠ t) (i : Nat) (u : Value) : (w.setCell ⟨p, i, none⟩ u).ownsRow base e size v n xs :=
  ownsRow_keep h fun j hj => Below.heap_setCell w ⟨p, i, none⟩ u j (fun e' => own_blk_ne h hp hne (by rw [hj]; exact congrArg some e'))
theorem row_grown {w w' : World} {b1 b2 s1 s2 n1 n2 : Nat} {e1 e2 : TypeId} {v1 v2 : Value} {x1 x2 : List Value} (h : w.ownsRow b1 e1 s1 v1 n1 x1) (h2 : w.ownsRow b2 e2 s2 v2 n2 x2) (hg : w.grownBy w' v2.ownBlock) (hne : e1 ≠ e2) : w'.ownsRow b1 e1 s1 v1 n1 x1 :=
  h.kept hg (own_ne h h2 hne)
theorem blk_grown {w w' : World} {b2 s2 n2 p : Nat} {e2 t : TypeId} {v2 : Value} {x2 : List Value} {cs : Array Value} (h : Blk w p t cs) (h2 : w.ownsRow b2 e2 s2 v2 n2 x2) (hg : w.grownBy w' v2.ownBlock) (hne : e2 ≠ t) : Blk w' p t cs :=
  h.grown hg (fun e => own_blk_ne h2 h hne e.symm)
theorem Touch.then_ {F : Nat → Prop} {a b c : World} (h : Touch F a b) (k : Touch F b c) : Touch F a c := h.trans (k.mono fun _ _ h => .inl h)
theorem entInfo : (Tryz.prog.info? 221).map (fun i => (i.zero, i.size, i.bytes)) = some (some (.agg #[.string ⟨#[]⟩, .int .i64 0]), 2, 24) := by kernel_rfl
theorem bodInfo : (Tryz.prog.info? 229).map (fun i => (i.zero, i.size, i.bytes)) = some (some (.agg #[.slice none 0 0, .int .i64 0]), 2, 32) := by kernel_rfl
theorem mnamed_any (s : ByteArray) (w : World) (hs : s.size ≤ maxLen) :
    Calls Tryz.prog 133 #[.string s] w fun e w' => e = .returned (.bool (named s.data.toList)) ∧ w = w' := by
  unfold maxLen at hs
  by_cases h1 : 1 ≤ s.size
  · have HN : Hid (decide ((s.size : Int) ≤ 1024) = named s.data.toList) := by
      unfold named; rw [len_size, Hid, decide_eq_decide]; omega
    go_enter Tryz.func133, Tryz.ntmps133
    go_wp2
    go_ret
    exact ⟨ret_bool HN.out, rfl⟩
  · have HN : Hid (false = named s.data.toList) := by
      unfold named; rw [len_size, Hid, decide_eq_false (fun h => h1 h.1)]
    go_enter Tryz.func133, Tryz.ntmps133
    go_wp2
    go_ret
    exact ⟨ret_bool HN.out, rfl⟩
theorem mnew_bad (r : Int) (w : World) (h : r < 0 ∨ 1073741824 < r) :
    Calls Tryz.prog 132 #[.int .i64 r] w fun e w' => e = .returned (.pointer none) ∧ w = w' := by
  rcases h with h | h
  · go_enter Tryz.func132, Tryz.ntmps132
    go_wp2
    go_ret
    exact ⟨rfl, rfl⟩
  · have h' : ¬ r < 0 := by omega
    go_enter Tryz.func132, Tryz.ntmps132
    go_wp2
    go_ret
    exact ⟨rfl, rfl⟩
def ml0 : MLay := ⟨.slice none 0 0, .slice none 0 0, .slice none 0 0, .slice none 0 0, [], []⟩
theorem mnew_good (r : Int) (w : World) (h0 : 0 ≤ r) (h1 : r ≤ 1073741824) :
    Calls Tryz.prog 132 #[.int .i64 r] w fun e w' => e = .returned (.pointer (some ⟨w.heap.size, 0, none⟩)) ∧ MdAt w' w.heap.size (Drv.new r.toNat) ml0 ∧ Below w.heap.size w w' := by
  have HR : Hid (((r.toNat : Nat) : Int) = r) := by show _ = _; omega
  go_enter Tryz.func132, Tryz.ntmps132
  go_wp2
  go_ret
  refine ⟨rfl, ⟨?_, ?_⟩, (Below.refl _ w).alloc (Nat.le_refl _) _⟩
  · have := Blk.new w 226 #[.int .i64 r, .slice none 0 0, .slice none 0 0, .slice none 0 0, .slice none 0 0]
    unfold mhead Drv.new ml0
    simp only
    rw [HR.out]; exact this
  · have e : dents (.map []) = [] := (ents_empty.dents sound_empty).symm
    exact ⟨World.ownsRow_nil _ _ _ _, rfl, fun i hi => absurd hi (by simp [Drv.new]), by show World.ownsRow _ _ _ _ _ (dents (.map [])).length (entCells (dents (.map []))); rw [e]; exact World.ownsRow_nil _ _ _ _, by show World.ownsRow _ _ _ _ _ (dents (.map [])).length (entCells (dents (.map []))); rw [e]; exact World.ownsRow_nil _ _ _ _, World.ownsRow_nil _ _ _ _, rfl, fun i hi => absurd hi (by simp [Drv.new])⟩
theorem copied_any (A : Option Addr) (n c : Nat) (bs : List UInt8) (w : World) (hr : Reads w w.heap.size 1 A n (bs.map B8)) (hn : n ≤ 140737488351232) :
    Calls Tryz.prog 135 #[.slice A n c] w fun e w' => ∃ v, e = .returned v ∧ w'.ownsRow w.heap.size 5 1 v n (bs.map B8) ∧ Below w.heap.size w w' := by
  obtain ⟨i5, hi5, hz0, hz1, hz2⟩ := info_parts byteInfo
  have HB8 : Hid (∀ u ∈ bs.map B8, u.oneCell' = true) := by intro u hu; simp only [List.mem_map] at hu; obtain ⟨b, _, rfl⟩ := hu; rfl
  have HR := Lib.hid hr
  have HN : Hid (0 + n ≤ maxLen) := by show _ ≤ _; simp only [maxLen]; omega
  clear hr
  go_enter Tryz.func135, Tryz.ntmps135
  go_wp2_with (at_builtin; (refine wpList_append_any _ rfl (.tmp 3) (.tmp 4) 46 rfl w.heap.size 5 i5 _ 1 1 Tryz.underlying46 hi5 hz0 hz1 hz2 rfl (by omega) _ 0 [] rfl (World.ownsRow_lit w #[] 0 (Nat.le_refl _) (by decide) rfl) w.heap.size A n c (bs.map B8) rfl (HR.out.alloc (Nat.le_refl _) _) HB8.out HN.out (by omega) (by simp) ?_); intro v1 w1 hown1 hg1 hat1; have HO := Lib.hid hown1; have HG := Lib.hid hg1; clear hown1 hg1 hat1)
  go_ret
  refine ⟨_, rfl, ?_, ?_⟩
  · have := HO.out; rw [Nat.zero_add, List.nil_append] at this; exact this
  · exact ((Below.refl _ w).alloc (Nat.le_refl _) _).grown HG.out (by simp) (fun k hk => by have e : some w.heap.size = some k := hk; injection e with e; omega)
end Go.Proofs.YtcbebefdbdppdaaGreat
namespace Go.Proofs.YtcbebefdbdppdaaGreat
open Go.RowKit Go.Maps
theorem row_pair {w : World} {base : Nat} {e : TypeId} {n c : Nat} {a : Option Addr} {α : Type} {f g : α → Value} {l : List α} (h : w.ownsRow base e 2 (.slice a n c) n (l.flatMap fun a => [f a, g a])) {k : Nat} {x : α} (hk : l[k]? = some x) (hn : l.length = n) :
    ∃ b, a = some ⟨b, 0, none⟩ ∧ b < w.heap.size ∧ w.cell? ⟨b, k * 2, none⟩ = some (f x) ∧ w.cell? ⟨b, k * 2 + 1, none⟩ = some (g x) := by
  have hlt : k < l.length := (List.getElem?_eq_some_iff.1 hk).1
  obtain ⟨b, cap, hv, _, hlt2⟩ := h.form (by omega)
  have ha : a = some ⟨b, 0, none⟩ := by injection hv
  subst ha
  obtain ⟨c1, c2⟩ := pair_get f g l k x hk
  refine ⟨b, rfl, hlt2, ?_, ?_⟩
  · have := h.cells (g := b) rfl _ _ c1; simpa [add_plain] using this
  · have := h.cells (g := b) rfl _ _ c2; simpa [add_plain] using this
set_option maxHeartbeats 1000000 in
theorem mfind_any (D : Dir) (l : List Ent) (hE : Ents D l) (v : Value) (n : Nat) (s : Nm) (w : World) (hn : l.length = n) (hrow : w.ownsRow 0 221 2 v n (entCells l)) (hb : n ≤ 2199023255552) :
    Calls Tryz.prog 134 #[v, .string ⟨s.toArray⟩] w fun e w' => e = .returned (.int .i64 (numI (dget D s))) ∧ w = w' := by
  obtain ⟨a, c, rfl, _⟩ := own_shape hrow
  have HE := Lib.hid hE
  have HN := Lib.hid hn
  have HR := Lib.hid hrow
  clear hE hn hrow
  go_enter Tryz.func134, Tryz.ntmps134
  go_wp2
  go_loop [5] (fun i => ∃ k : Nat, k ≤ n ∧ i = .int .i64 k ∧ Hid (∀ e ∈ l.take k, e.1 ≠ s)) (fun i => n - (intOf i).toNat)
  case atStart => exact ⟨0, Nat.zero_le _, rfl, fun e he => by simp at he⟩
  case round =>
    obtain ⟨k, hk, rfl, HA⟩ := hrel
    by_cases hlt : k < n
    · obtain ⟨⟨t, i⟩, hti⟩ : ∃ x, l[k]? = some x := ⟨_, List.getElem?_eq_getElem (by rw [HN.out]; exact hlt)⟩
      obtain ⟨b, rfl, hbl, x1, x2⟩ := row_pair HR.out hti HN.out
      simp only [strV] at x1
      have HTI := Lib.hid hti
      clear hti
      by_cases he : t = s
      · subst he
        have HD : Hid (dget D t = some i) := ents_get HE.out HTI.out
        go_wp2
        go_ret
        refine ⟨?_, rfl⟩
        rw [HD.out]; rfl
      · have hne : (t == s) = false := by simpa using he
        have HNE := Lib.hid he
        clear he
        go_wp2
        go_round
        case rel =>
          refine ⟨k + 1, by omega, by go_num, fun e hm => ?_⟩
          rw [List.take_add_one, HTI.out] at hm
          rcases List.mem_append.1 hm with hm | hm
          · exact HA.out e hm
          · rw [Option.toList_some, List.mem_singleton] at hm; rw [hm]; exact HNE.out
        case measure => simp [intOf]; omega
    · go_wp2
      go_ret
      obtain rfl : k = n := by omega
      refine ⟨?_, rfl⟩
      rw [ents_none HE.out (fun e he => HA.out e (by rw [List.take_of_length_le (by rw [HN.out]; exact Nat.le_refl _)]; exact he))]
      rfl
theorem eset_parts {l : List Ent} (h : l.Pairwise fun a b => a.1 < b.1) {s : Nm} {k : Nat} (hk : k ≤ l.length) (h1 : ∀ e ∈ l.take k, e.1 < s) (h2 : ∀ t i, l[k]? = some (t, i) → ¬ t < s) :
    (∀ i, l[k]? = some (s, i) → l = l.take k ++ [(s, i)] ++ l.drop (k + 1) ∧ ∀ e ∈ l.drop (k + 1), s < e.1) ∧ ((∀ t i, l[k]? = some (t, i) → t ≠ s) → l = l.take k ++ [] ++ l.drop k ∧ ∀ e ∈ l.drop k, s < e.1) := by
  have hp := List.pairwise_iff_getElem.1 h
  refine ⟨fun i hi => ?_, fun hne => ⟨by simp, fun e he => ?_⟩⟩
  · obtain ⟨hkl, hke⟩ := List.getElem?_eq_some_iff.1 hi
    refine ⟨?_, fun e he => ?_⟩
    · rw [List.append_assoc, ← hke, List.singleton_append, ← List.drop_eq_getElem_cons hkl, List.take_append_drop]
    · obtain ⟨j, hj, rfl⟩ := List.getElem_of_mem he
      rw [List.getElem_drop]
      have := hp k (k + 1 + j) hkl (by rw [List.length_drop] at hj; omega) (by omega)
      rw [hke] at this; exact this
  · obtain ⟨j, hj, rfl⟩ := List.getElem_of_mem he
    rw [List.length_drop] at hj
    rw [List.getElem_drop]
    have hkl : k < l.length := by omega
    obtain ⟨t, i, hx⟩ : ∃ t i, l[k] = (t, i) := ⟨_, _, rfl⟩
    have hg : l[k]? = some (t, i) := by rw [List.getElem?_eq_getElem hkl, hx]
    have hts : s < t := by
      by_cases hlt : s < t
      · exact hlt
      · exact absurd (nm_tri (h2 t i hg) hlt) (hne t i hg)
    rcases Nat.eq_zero_or_pos j with e | e
    · subst e
      simp only [Nat.add_zero, hx]; exact hts
    · have := hp k (k + j) hkl (by omega) (by omega)
      rw [hx] at this
      exact nm_trans hts this
end Go.Proofs.YtcbebefdbdppdaaGreat
