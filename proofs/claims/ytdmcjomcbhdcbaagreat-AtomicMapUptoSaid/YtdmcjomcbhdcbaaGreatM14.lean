/- How the document's drive lies in memory: one struct, rows of entries, of bodies, of bytes, of changes.; The document's directory, walked: find, set.; The document's directory, walked: set. -/
import Derived.Test.YtdmcjomcbhdcbaaGreatM9
import Derived.Test.YtdmcjomcbhdcbaaGreatM13
import Derived.WalkLawsBesides
import Derived.Deep.DeepMust
import Derived.Deep.DeepCutAuto
set_option linter.unusedVariables false
namespace Go.Proofs.YtdmcjomcbhdcbaaGreat
open Go.RowKit Go.Maps

def intZ (n : Int) : Value := .int .i64 n
def numI : Option Nat → Int
  | none => -1
  | some i => i
theorem pair_get {α : Type} (f g : α → Value) : ∀ (l : List α) (k : Nat) (a : α), l[k]? = some a → (l.flatMap fun a => [f a, g a])[k * 2]? = some (f a) ∧ (l.flatMap fun a => [f a, g a])[k * 2 + 1]? = some (g a)
  | [], k, a, h => by simp at h
  | b :: l, 0, a, h => by simp at h; subst h; exact ⟨rfl, rfl⟩
  | b :: l, k + 1, a, h => by
    have := pair_get f g l k a (by simpa using h)
    rw [show (k + 1) * 2 = k * 2 + 1 + 1 by omega]
    simpa [List.flatMap_cons] using this
theorem pair_len {α : Type} (f g : α → Value) (l : List α) : (l.flatMap fun a => [f a, g a]).length = l.length * 2 := by
  induction l with
  | nil => rfl
  | cons a l ih => rw [List.flatMap_cons, List.length_append, ih]; simp; omega
def entCells (l : List Ent) : List Value := l.flatMap fun e => [strV e.1, intZ (e.2 : Int)]
def chgEnts (c : List Stp) : List Value := c.flatMap fun s => [strV s.1, intZ (numI s.2)]
def bodCells (vals : List Value) (bs : List Body) : List Value := (vals.zip bs).flatMap fun x => [x.1, intZ (x.2.safe : Int)]

/-- Where the parts of the document's drive lie. -/
structure MLay where
  vb : Value
  vn : Value
  vk : Value
  vc : Value
  dat : List Value
  chg : List Value
def MLay.da (L : MLay) (i : Nat) : Value := L.dat.getD i (.slice none 0 0)
def MLay.ch (L : MLay) (i : Nat) : Value := L.chg.getD i (.slice none 0 0)

/-- All but the struct. -/
structure MRows (w : World) (S : Drv) (L : MLay) : Prop where
  bod : w.ownsRow 0 161 2 L.vb S.bodies.length (bodCells L.dat S.bodies)
  ld : L.dat.length = S.bodies.length
  data : ∀ i, i < S.bodies.length → w.ownsRow 0 5 1 (L.da i) (S.len i) ((S.body i).data.map B8)
  now : w.ownsRow 0 153 2 L.vn (dents S.now).length (entCells (dents S.now))
  kept : w.ownsRow 0 153 2 L.vk (dents S.kept).length (entCells (dents S.kept))
  chs : w.ownsRow 0 155 1 L.vc S.pending.length L.chg
  lc : L.chg.length = S.pending.length
  chg : ∀ j, j < S.pending.length → w.ownsRow 0 153 2 (L.ch j) (S.pending.getD j []).length (chgEnts (S.pending.getD j []))
def mhead (S : Drv) (L : MLay) : Array Value := #[.int .i64 S.room, L.vb, L.vn, L.vk, L.vc]
structure MdAt (w : World) (p : Nat) (S : Drv) (L : MLay) : Prop where
  head : Blk w p 158 (mhead S L)
  rows : MRows w S L

/-- The blocks of the rows. -/
def MLay.rfoot (L : MLay) (k : Nat) : Prop := L.vb.ownBlock = some k ∨ L.vn.ownBlock = some k ∨ L.vk.ownBlock = some k ∨ L.vc.ownBlock = some k ∨ (∃ v ∈ L.dat, v.ownBlock = some k) ∨ ∃ v ∈ L.chg, v.ownBlock = some k
def MLay.foot (L : MLay) (p k : Nat) : Prop := k = p ∨ L.rfoot k

theorem da_mem {L : MLay} {i : Nat} (h : i < L.dat.length) : L.da i ∈ L.dat := getD_mem _ h
theorem ch_mem {L : MLay} {i : Nat} (h : i < L.chg.length) : L.ch i ∈ L.chg := getD_mem _ h

theorem MRows.keep {w w' : World} {S : Drv} {L : MLay} (h : MRows w S L) (hk : ∀ k, L.rfoot k → w'.heap[k]? = w.heap[k]?) : MRows w' S L where
  bod := ownsRow_keep h.bod fun k e => hk k (.inl e)
  ld := h.ld
  data i hi := ownsRow_keep (h.data i hi) fun k e => hk k (.inr (.inr (.inr (.inr (.inl ⟨_, da_mem (by rw [h.ld]; exact hi), e⟩)))))
  now := ownsRow_keep h.now fun k e => hk k (.inr (.inl e))
  kept := ownsRow_keep h.kept fun k e => hk k (.inr (.inr (.inl e)))
  chs := ownsRow_keep h.chs fun k e => hk k (.inr (.inr (.inr (.inl e))))
  lc := h.lc
  chg j hj := ownsRow_keep (h.chg j hj) fun k e => hk k (.inr (.inr (.inr (.inr (.inr ⟨_, ch_mem (by rw [h.lc]; exact hj), e⟩)))))
theorem MRows.lt {w : World} {S : Drv} {L : MLay} (h : MRows w S L) {k : Nat} (hk : L.rfoot k) : k < w.heap.size := by
  rcases hk with e | e | e | e | ⟨v, hv, e⟩ | ⟨v, hv, e⟩
  · exact (h.bod.lt k e).2
  · exact (h.now.lt k e).2
  · exact (h.kept.lt k e).2
  · exact (h.chs.lt k e).2
  · obtain ⟨i, hi, rfl⟩ := List.getElem_of_mem hv
    have h1 := h.data i (by rw [← h.ld]; exact hi)
    have e1 : L.da i = L.dat[i] := by simp [MLay.da, List.getD, hi]
    rw [e1] at h1
    exact (h1.lt k e).2
  · obtain ⟨i, hi, rfl⟩ := List.getElem_of_mem hv
    have h1 := h.chg i (by rw [← h.lc]; exact hi)
    have e1 : L.ch i = L.chg[i] := by simp [MLay.ch, List.getD, hi]
    rw [e1] at h1
    exact (h1.lt k e).2
/-- A block of another kind than all rows is none of theirs. -/
theorem MRows.far {w : World} {S : Drv} {L : MLay} (h : MRows w S L) {p : Nat} {t : TypeId} {cs : Array Value} (hp : Blk w p t cs)
    (h1 : 161 ≠ t) (h2 : 5 ≠ t) (h3 : 153 ≠ t) (h4 : 155 ≠ t) : ¬ L.rfoot p := by
  rintro (e | e | e | e | ⟨v, hv, e⟩ | ⟨v, hv, e⟩)
  · exact own_blk_ne h.bod hp h1 e
  · exact own_blk_ne h.now hp h3 e
  · exact own_blk_ne h.kept hp h3 e
  · exact own_blk_ne h.chs hp h4 e
  · obtain ⟨i, hi, rfl⟩ := List.getElem_of_mem hv
    have h5 := h.data i (by rw [← h.ld]; exact hi)
    have e1 : L.da i = L.dat[i] := by simp [MLay.da, List.getD, hi]
    rw [e1] at h5
    exact own_blk_ne h5 hp h2 e
  · obtain ⟨i, hi, rfl⟩ := List.getElem_of_mem hv
    have h5 := h.chg i (by rw [← h.lc]; exact hi)
    have e1 : L.ch i = L.chg[i] := by simp [MLay.ch, List.getD, hi]
    rw [e1] at h5
    exact own_blk_ne h5 hp h3 e
theorem MdAt.keep {w w' : World} {p : Nat} {S : Drv} {L : MLay} (h : MdAt w p S L) (hk : ∀ k, L.foot p k → w'.heap[k]? = w.heap[k]?) : MdAt w' p S L :=
  ⟨(hk p (.inl rfl)).trans h.head, h.rows.keep fun k e => hk k (.inr e)⟩
theorem MdAt.lt {w : World} {p : Nat} {S : Drv} {L : MLay} (h : MdAt w p S L) {k : Nat} (hk : L.foot p k) : k < w.heap.size := by
  rcases hk with rfl | e
  · exact h.head.lt
  · exact h.rows.lt e
theorem MdAt.not_p {w : World} {p : Nat} {S : Drv} {L : MLay} (h : MdAt w p S L) : ¬ L.rfoot p := h.rows.far h.head (by decide) (by decide) (by decide) (by decide)

/-- The document's drive in memory, its blocks among F. -/
def Md (w : World) (p : Nat) (S : Drv) (F : Nat → Prop) : Prop := ∃ L, MdAt w p S L ∧ ∀ k, L.foot p k → F k
section
variable {w w' : World} {p : Nat} {S : Drv} {F G : Nat → Prop}
theorem Md.keep (h : Md w p S F) (ht : Touch G w w') (hd : ∀ k, F k → ¬G k) : Md w' p S F := by
  obtain ⟨L, h, hF⟩ := h
  exact ⟨L, h.keep fun k hk => ht.block k (h.lt hk) (hd k (hF k hk)), hF⟩
theorem Md.mono (h : Md w p S F) (hFG : ∀ k, F k → G k) : Md w p S G := by
  obtain ⟨L, h, hF⟩ := h; exact ⟨L, h, fun k hk => hFG k (hF k hk)⟩
theorem Md.below (h : Md w p S F) (hb : Below w.heap.size w w') : Md w' p S F := h.keep (Touch.of_below (F := fun _ => False) hb) fun _ _ h => h
theorem Md.lt (h : Md w p S F) : Md w p S fun k => F k ∧ k < w.heap.size := by
  obtain ⟨L, h, hF⟩ := h; exact ⟨L, h, fun k hk => ⟨hF k hk, h.lt hk⟩⟩
end
theorem row_set {w : World} {base size n p : Nat} {e t : TypeId} {v : Value} {xs : List Value} {cs : Array Value} (h : w.ownsRow base e size v n xs) (hp : Blk w p t cs) (hne : e ≠ t) (i : Nat) (u : Value) : (w.setCell ⟨p, i, none⟩ u).ownsRow base e size v n xs :=
  ownsRow_keep h fun j hj => Below.heap_setCell w ⟨p, i, none⟩ u j (fun e' => own_blk_ne h hp hne (by rw [hj]; exact congrArg some e'))
theorem row_grown {w w' : World} {b1 b2 s1 s2 n1 n2 : Nat} {e1 e2 : TypeId} {v1 v2 : Value} {x1 x2 : List Value} (h : w.ownsRow b1 e1 s1 v1 n1 x1) (h2 : w.ownsRow b2 e2 s2 v2 n2 x2) (hg : w.grownBy w' v2.ownBlock) (hne : e1 ≠ e2) : w'.ownsRow b1 e1 s1 v1 n1 x1 :=
  h.kept hg (own_ne h h2 hne)
theorem blk_grown {w w' : World} {b2 s2 n2 p : Nat} {e2 t : TypeId} {v2 : Value} {x2 : List Value} {cs : Array Value} (h : Blk w p t cs) (h2 : w.ownsRow b2 e2 s2 v2 n2 x2) (hg : w.grownBy w' v2.ownBlock) (hne : e2 ≠ t) : Blk w' p t cs :=
  h.grown hg (fun e => own_blk_ne h2 h hne e.symm)
theorem Touch.then_ {F : Nat → Prop} {a b c : World} (h : Touch F a b) (k : Touch F b c) : Touch F a c := h.trans (k.mono fun _ _ h => .inl h)
theorem entInfo : (Tryz.prog.info? 153).map (fun i => (i.zero, i.size, i.bytes)) = some (some (.agg #[.string ⟨#[]⟩, .int .i64 0]), 2, 24) := by kernel_rfl
theorem bodInfo : (Tryz.prog.info? 161).map (fun i => (i.zero, i.size, i.bytes)) = some (some (.agg #[.slice none 0 0, .int .i64 0]), 2, 32) := by kernel_rfl
theorem entsInfo : (Tryz.prog.info? 155).map (fun i => (i.zero, i.size, i.bytes)) = some (some (.slice none 0 0), 1, 24) := by kernel_rfl

theorem mnamed_any (s : ByteArray) (w : World) (hs : s.size ≤ maxLen) :
    Calls Tryz.prog 86 #[.string s] w fun e w' => e = .returned (.bool (named s.data.toList)) ∧ w = w' := by
  unfold maxLen at hs
  by_cases h1 : 1 ≤ s.size
  · have HN : Hid (decide ((s.size : Int) ≤ 1024) = named s.data.toList) := by
      unfold named; rw [len_size, Hid, decide_eq_decide]; omega
    go_enter Tryz.func86, Tryz.ntmps86
    go_wp2
    go_ret
    exact ⟨ret_bool HN.out, rfl⟩
  · have HN : Hid (false = named s.data.toList) := by
      unfold named; rw [len_size, Hid, decide_eq_false (fun h => h1 h.1)]
    go_enter Tryz.func86, Tryz.ntmps86
    go_wp2
    go_ret
    exact ⟨ret_bool HN.out, rfl⟩

theorem mnew_bad (r : Int) (w : World) (h : r < 0 ∨ 1073741824 < r) :
    Calls Tryz.prog 85 #[.int .i64 r] w fun e w' => e = .returned (.pointer none) ∧ w = w' := by
  rcases h with h | h
  · go_enter Tryz.func85, Tryz.ntmps85
    go_wp2
    go_ret
    exact ⟨rfl, rfl⟩
  · have h' : ¬ r < 0 := by omega
    go_enter Tryz.func85, Tryz.ntmps85
    go_wp2
    go_ret
    exact ⟨rfl, rfl⟩
def ml0 : MLay := ⟨.slice none 0 0, .slice none 0 0, .slice none 0 0, .slice none 0 0, [], []⟩
theorem mnew_good (r : Int) (w : World) (h0 : 0 ≤ r) (h1 : r ≤ 1073741824) :
    Calls Tryz.prog 85 #[.int .i64 r] w fun e w' => e = .returned (.pointer (some ⟨w.heap.size, 0, none⟩)) ∧ MdAt w' w.heap.size (Drv.new r.toNat) ml0 ∧ Below w.heap.size w w' := by
  have HR : Hid (((r.toNat : Nat) : Int) = r) := by show _ = _; omega
  go_enter Tryz.func85, Tryz.ntmps85
  go_wp2
  go_ret
  refine ⟨rfl, ⟨?_, ?_⟩, (Below.refl _ w).alloc (Nat.le_refl _) _⟩
  · have := Blk.new w 158 #[.int .i64 r, .slice none 0 0, .slice none 0 0, .slice none 0 0, .slice none 0 0]
    unfold mhead Drv.new ml0
    simp only
    rw [HR.out]; exact this
  · have e : dents (.map []) = [] := (ents_empty.dents sound_empty).symm
    exact ⟨World.ownsRow_nil _ _ _ _, rfl, fun i hi => absurd hi (by simp [Drv.new]), by show World.ownsRow _ _ _ _ _ (dents (.map [])).length (entCells (dents (.map []))); rw [e]; exact World.ownsRow_nil _ _ _ _, by show World.ownsRow _ _ _ _ _ (dents (.map [])).length (entCells (dents (.map []))); rw [e]; exact World.ownsRow_nil _ _ _ _, World.ownsRow_nil _ _ _ _, rfl, fun i hi => absurd hi (by simp [Drv.new])⟩

theorem copied_any (A : Option Addr) (n c : Nat) (bs : List UInt8) (w : World) (hr : Reads w w.heap.size 1 A n (bs.map B8)) (hn : n ≤ 140737488351232) :
    Calls Tryz.prog 88 #[.slice A n c] w fun e w' => ∃ v, e = .returned v ∧ w'.ownsRow w.heap.size 5 1 v n (bs.map B8) ∧ Below w.heap.size w w' := by
  obtain ⟨i5, hi5, hz0, hz1, hz2⟩ := info_parts byteInfo
  have HB8 : Hid (∀ u ∈ bs.map B8, u.oneCell' = true) := by intro u hu; simp only [List.mem_map] at hu; obtain ⟨b, _, rfl⟩ := hu; rfl
  have HR := Lib.hid hr
  have HN : Hid (0 + n ≤ maxLen) := by show _ ≤ _; simp only [maxLen]; omega
  clear hr
  go_enter Tryz.func88, Tryz.ntmps88
  go_wp2_with (at_builtin; go_loud (refine wpList_append_any _ rfl (.tmp 3) (.tmp 4) 26 rfl w.heap.size 5 i5 _ 1 1 Tryz.underlying26 hi5 hz0 hz1 hz2 rfl (by omega) _ 0 [] rfl (World.ownsRow_lit w #[] 0 (Nat.le_refl _) (by decide) rfl) w.heap.size A n c (bs.map B8) rfl (HR.out.alloc (Nat.le_refl _) _) HB8.out HN.out (by omega) (by simp) ?_); intro v1 w1 hown1 hg1 hat1; have HO := Lib.hid hown1; have HG := Lib.hid hg1; clear hown1 hg1 hat1)
  go_ret
  refine ⟨_, rfl, ?_, ?_⟩
  · have := HO.out; rw [Nat.zero_add, List.nil_append] at this; exact this
  · exact ((Below.refl _ w).alloc (Nat.le_refl _) _).grown HG.out (by simp) (fun k hk => by have e : some w.heap.size = some k := hk; injection e with e; omega)
end Go.Proofs.YtdmcjomcbhdcbaaGreat
namespace Go.Proofs.YtdmcjomcbhdcbaaGreat
open Go.RowKit Go.Maps

theorem row_pair {w : World} {base : Nat} {e : TypeId} {n c : Nat} {a : Option Addr} {α : Type} {f g : α → Value} {l : List α} (h : w.ownsRow base e 2 (.slice a n c) n (l.flatMap fun a => [f a, g a])) {k : Nat} {x : α} (hk : l[k]? = some x) (hn : l.length = n) :
    ∃ b, a = some ⟨b, 0, none⟩ ∧ b < w.heap.size ∧ w.cell? ⟨b, k * 2, none⟩ = some (f x) ∧ w.cell? ⟨b, k * 2 + 1, none⟩ = some (g x) := by
  have hlt : k < l.length := (List.getElem?_eq_some_iff.1 hk).1
  obtain ⟨b, cap, hv, _, hlt2⟩ := h.form (by omega)
  have ha : a = some ⟨b, 0, none⟩ := by injection hv
  subst ha
  obtain ⟨c1, c2⟩ := pair_get f g l k x hk
  refine ⟨b, rfl, hlt2, ?_, ?_⟩
  · have := h.cells (g := b) rfl _ _ c1; simpa [add_plain] using this
  · have := h.cells (g := b) rfl _ _ c2; simpa [add_plain] using this

set_option maxHeartbeats 1000000 in
theorem mfind_any (D : Dir) (l : List Ent) (hE : Ents D l) (v : Value) (n : Nat) (s : Nm) (w : World) (hn : l.length = n) (hrow : w.ownsRow 0 153 2 v n (entCells l)) (hb : n ≤ 2199023255552) :
    Calls Tryz.prog 87 #[v, .string ⟨s.toArray⟩] w fun e w' => e = .returned (.int .i64 (numI (dget D s))) ∧ w = w' := by
  obtain ⟨a, c, rfl, _⟩ := own_shape hrow
  have HE := Lib.hid hE
  have HN := Lib.hid hn
  have HR := Lib.hid hrow
  clear hE hn hrow
  go_enter Tryz.func87, Tryz.ntmps87
  go_wp2
  go_loop [5] (fun i => ∃ k : Nat, k ≤ n ∧ i = .int .i64 k ∧ Hid (∀ e ∈ l.take k, e.1 ≠ s)) (fun i => n - (intOf i).toNat)
  case atStart => exact ⟨0, Nat.zero_le _, rfl, fun e he => by simp at he⟩
  case round =>
    obtain ⟨k, hk, rfl, HA⟩ := hrel
    by_cases hlt : k < n
    · obtain ⟨⟨t, i⟩, hti⟩ : ∃ x, l[k]? = some x := ⟨_, List.getElem?_eq_getElem (by rw [HN.out]; exact hlt)⟩
      obtain ⟨b, rfl, hbl, x1, x2⟩ := row_pair HR.out hti HN.out
      simp only [strV] at x1
      have HTI := Lib.hid hti
      clear hti
      by_cases he : t = s
      · subst he
        have HD : Hid (dget D t = some i) := ents_get HE.out HTI.out
        go_wp2
        go_ret
        refine ⟨?_, rfl⟩
        rw [HD.out]; rfl
      · have hne : (t == s) = false := by simpa using he
        have HNE := Lib.hid he
        clear he
        go_wp2
        go_round
        case rel =>
          refine ⟨k + 1, by omega, by go_num, fun e hm => ?_⟩
          rw [List.take_add_one, HTI.out] at hm
          rcases List.mem_append.1 hm with hm | hm
          · exact HA.out e hm
          · rw [Option.toList_some, List.mem_singleton] at hm; rw [hm]; exact HNE.out
        case measure => simp [intOf]; omega
    · go_wp2
      go_ret
      obtain rfl : k = n := by omega
      refine ⟨?_, rfl⟩
      rw [ents_none HE.out (fun e he => HA.out e (by rw [List.take_of_length_le (by rw [HN.out]; exact Nat.le_refl _)]; exact he))]
      rfl

/-- What lies ahead of a name, at it, and behind it. -/
theorem eset_parts {l : List Ent} (h : l.Pairwise fun a b => a.1 < b.1) {s : Nm} {k : Nat} (hk : k ≤ l.length) (h1 : ∀ e ∈ l.take k, e.1 < s) (h2 : ∀ t i, l[k]? = some (t, i) → ¬ t < s) :
    (∀ i, l[k]? = some (s, i) → l = l.take k ++ [(s, i)] ++ l.drop (k + 1) ∧ ∀ e ∈ l.drop (k + 1), s < e.1) ∧ ((∀ t i, l[k]? = some (t, i) → t ≠ s) → l = l.take k ++ [] ++ l.drop k ∧ ∀ e ∈ l.drop k, s < e.1) := by
  have hp := List.pairwise_iff_getElem.1 h
  refine ⟨fun i hi => ?_, fun hne => ⟨by simp, fun e he => ?_⟩⟩
  · obtain ⟨hkl, hke⟩ := List.getElem?_eq_some_iff.1 hi
    refine ⟨?_, fun e he => ?_⟩
    · rw [List.append_assoc, ← hke, List.singleton_append, ← List.drop_eq_getElem_cons hkl, List.take_append_drop]
    · obtain ⟨j, hj, rfl⟩ := List.getElem_of_mem he
      rw [List.getElem_drop]
      have := hp k (k + 1 + j) hkl (by rw [List.length_drop] at hj; omega) (by omega)
      rw [hke] at this; exact this
  · obtain ⟨j, hj, rfl⟩ := List.getElem_of_mem he
    rw [List.length_drop] at hj
    rw [List.getElem_drop]
    have hkl : k < l.length := by omega
    obtain ⟨t, i, hx⟩ : ∃ t i, l[k] = (t, i) := ⟨_, _, rfl⟩
    have hg : l[k]? = some (t, i) := by rw [List.getElem?_eq_getElem hkl, hx]
    have hts : s < t := by
      by_cases hlt : s < t
      · exact hlt
      · exact absurd (nm_tri (h2 t i hg) hlt) (hne t i hg)
    rcases Nat.eq_zero_or_pos j with e | e
    · subst e
      simp only [Nat.add_zero, hx]; exact hts
    · have := hp k (k + j) hkl (by omega) (by omega)
      rw [hx] at this
      exact nm_trans hts this
end Go.Proofs.YtdmcjomcbhdcbaaGreat
namespace Go.Proofs.YtdmcjomcbhdcbaaGreat
open Go.RowKit Go.Maps

/-- How many entries lie ahead of a name. -/
def epos (l : List Ent) (s : Nm) : Nat := (l.takeWhile fun e => decide (e.1 < s)).length
theorem epos_le (l : List Ent) (s : Nm) : epos l s ≤ l.length := by
  unfold epos
  induction l with
  | nil => exact Nat.le_refl _
  | cons a l ih => rw [List.takeWhile_cons]; split <;> simp; exact ih
theorem epos_lt : ∀ {l : List Ent} {s : Nm} {k : Nat}, k < epos l s → ∀ {t i}, l[k]? = some (t, i) → t < s
  | [], s, k, h, t, i, hk => by simp at hk
  | a :: l, s, k, h, t, i, hk => by
    unfold epos at h
    rw [List.takeWhile_cons] at h
    split at h
    · rename_i ha
      cases k with
      | zero => simp at hk; subst hk; simpa using ha
      | succ k => exact epos_lt (l := l) (by simpa [epos] using h) (by simpa using hk)
    · simp at h
theorem epos_at : ∀ {l : List Ent} {s : Nm} {t i}, l[epos l s]? = some (t, i) → ¬ t < s
  | [], s, t, i, hk => by simp at hk
  | a :: l, s, t, i, hk => by
    unfold epos at hk
    rw [List.takeWhile_cons] at hk
    split at hk
    · exact epos_at (l := l) (by simpa [epos] using hk)
    · rename_i ha
      simp at hk
      subst hk
      simpa using ha
theorem entCells_snoc (l : List Ent) (t : Nm) (i : Nat) : entCells (l ++ [(t, i)]) = entCells l ++ [strV t, intZ i] := by unfold entCells; rw [List.flatMap_append]; rfl
theorem take_snoc_ {α : Type} {l : List α} {k : Nat} {x : α} (h : l[k]? = some x) : l.take (k + 1) = l.take k ++ [x] := by rw [List.take_add_one, h]; rfl
theorem drop_cons_ {α : Type} {l : List α} {k : Nat} {x : α} (h : l[k]? = some x) : l.drop k = x :: l.drop (k + 1) := by
  obtain ⟨hk, e⟩ := List.getElem?_eq_some_iff.1 h
  rw [List.drop_eq_getElem_cons hk, e]

/-- The entries' list with a name set. -/
def eset (l : List Ent) (s : Nm) (o : Option Nat) : List Ent :=
  l.take (epos l s) ++ (match o with | none => [] | some i => [(s, i)]) ++ (if (l[epos l s]?.map (·.1)) = some s then l.drop (epos l s + 1) else l.drop (epos l s))
theorem Ents.set {D : Dir} {l : List Ent} (h : Ents D l) (ht : Tidy D) (s : Nm) (o : Option Nat) : Ents (applyStp D (s, o)) (eset l s o) := by
  have h1 : ∀ e ∈ l.take (epos l s), e.1 < s := by
    intro e he
    obtain ⟨j, hj, rfl⟩ := List.getElem_of_mem he
    have hj' := hj
    rw [List.length_take] at hj'
    rw [List.getElem_take]
    obtain ⟨t, i, hx⟩ : ∃ t i, l[j] = (t, i) := ⟨_, _, rfl⟩
    rw [hx]
    exact epos_lt (l := l) (k := j) (by omega) (t := t) (i := i) (by rw [List.getElem?_eq_getElem (by omega), hx])
  obtain ⟨a, b⟩ := eset_parts h.rise (epos_le l s) h1 fun t i hti => epos_at hti
  unfold eset applyStp
  by_cases hs : (l[epos l s]?.map (·.1)) = some s
  · rw [if_pos hs]
    obtain ⟨⟨t, j⟩, hj, e⟩ := Option.map_eq_some_iff.1 hs
    have e' : t = s := e
    subst e'
    obtain ⟨p1, p2⟩ := a j hj
    rw [p1] at h
    cases o with
    | none => rw [List.append_nil]; exact h.del h1 (by simp) p2
    | some i => rw [List.append_assoc]; exact h.put ht h1 (by simp) p2 i
  · rw [if_neg hs]
    obtain ⟨p1, p2⟩ := b fun t i hti e => hs (by rw [hti, e]; rfl)
    rw [p1] at h
    cases o with
    | none => rw [List.append_nil]; exact h.del h1 (by simp) p2
    | some i => rw [List.append_assoc]; exact h.put ht h1 (by simp) p2 i
theorem eset_len (l : List Ent) (s : Nm) (o : Option Nat) : (eset l s o).length ≤ l.length + 1 := by
  unfold eset
  have := epos_le l s
  simp only [List.length_append, List.length_take]
  have h1 : (match o with | none => ([] : List Ent) | some i => [(s, i)]).length ≤ 1 := by cases o <;> simp
  have h2 : (if (l[epos l s]?.map (·.1)) = some s then l.drop (epos l s + 1) else l.drop (epos l s)).length ≤ l.length - epos l s := by split <;> rw [List.length_drop] <;> omega
  omega

set_option maxRecDepth 100000 in
set_option maxHeartbeats 2000000 in
theorem mset_any (l : List Ent) (v : Value) (n : Nat) (s : Nm) (o : Option Nat) (w : World) (hn : l.length = n) (hrow : w.ownsRow 0 153 2 v n (entCells l)) (hb : n ≤ 2199023255552) (ho : ∀ i, o = some i → i ≤ 2199023255552) :
    Calls Tryz.prog 89 #[v, .string ⟨s.toArray⟩, .int .i64 (numI o)] w fun e w' => ∃ v', e = .returned v' ∧ w'.ownsRow w.heap.size 153 2 v' (eset l s o).length (entCells (eset l s o)) ∧ Below w.heap.size w w' := by
  obtain ⟨a, c, rfl, _⟩ := own_shape hrow
  obtain ⟨i0, hi0, hz0, hz1, hz2⟩ := info_parts entInfo
  have HN := Lib.hid hn
  have HR := Lib.hid hrow
  obtain ⟨k0, hk0⟩ : ∃ k0, k0 = epos l s := ⟨_, rfl⟩
  have hk0n : k0 ≤ n := by rw [hk0, ← hn]; exact epos_le l s
  have HK0 := Lib.hid hk0
  have HM := Lib.hid ho
  clear hn hrow hk0 ho
  obtain ⟨z, hz⟩ : ∃ z, z = numI o := ⟨_, rfl⟩
  rw [← hz]
  have HZ := Lib.hid hz
  clear hz
  go_enter Tryz.func89, Tryz.ntmps89
  go_wp2
  go_loopw [7, 8] (fun v i wr => ∃ k : Nat, k ≤ k0 ∧ i = .int .i64 k ∧ wr.ownsRow w.heap.size 153 2 v k (entCells (l.take k)) ∧ Below w.heap.size w wr) (fun _ i _ => k0 - (intOf i).toNat)
  case atStart => exact ⟨0, Nat.zero_le _, rfl, World.ownsRow_nil _ _ _ _, Below.refl _ _⟩
  case round =>
    obtain ⟨k, hk, rfl, hown, hbel⟩ := hrel
    have hsz : w.heap.size ≤ wr.heap.size := hbel.size
    by_cases hlt : k < k0
    · have hkn : k < n := by omega
      obtain ⟨⟨t, i⟩, hti⟩ : ∃ x, l[k]? = some x := ⟨_, List.getElem?_eq_getElem (by rw [HN.out]; exact hkn)⟩
      obtain ⟨b, rfl, hbl, x1, x2⟩ := row_pair HR.out hti HN.out
      simp only [strV] at x1
      simp only [intZ] at x2
      have hts : Op.bytesLess t s = true := by rw [bytesLess_eq]; exact decide_eq_true (epos_lt (by rw [← HK0.out]; exact hlt) hti)
      have y1 : wr.cell? ⟨b, k * 2, none⟩ = some (.string ⟨t.toArray⟩) := (hbel.cell hbl).trans x1
      have y2 : wr.cell? ⟨b, k * 2 + 1, none⟩ = some (.int .i64 i) := (hbel.cell hbl).trans x2
      have HO := Lib.hid hown
      have HB := Lib.hid hbel
      have HTI := Lib.hid hti
      clear hown hbel hti x1 x2
      obtain ⟨av, cv, rfl, _⟩ := own_shape HO.out
      go_wp2_with (at_builtin; go_must (refine wpList_append_any _ rfl (.tmp 22) (.tmp 27) 155 rfl w.heap.size 153 i0 _ 2 24 Tryz.underlying155 hi0 hz0 hz1 hz2 rfl (by omega) _ k _ rfl (HO.out.alloc _) (wr.heap.size + 1) (some ⟨wr.heap.size, 0, none⟩) 1 1 [.string ⟨t.toArray⟩, .int .i64 i] rfl (by exact reads_blk (t := 153) (blk_last _ _ _ _ rfl) (by omega) rfl) (by intro u hu; simp at hu; rcases hu with rfl | rfl <;> rfl) (by simp only [maxLen]; omega) (by omega) (by simp; omega) ?_); intro v1 w1 hown1 hg1 hat1; have HO1 := Lib.hid hown1; have HB1 : Hid (Below w.heap.size w w1) := Lib.hid ((HB.out.alloc hsz _).grown hg1 (by simp; omega) (fun k hk => (HO.out.lt k hk).1)); clear hown1 hg1 hat1)
      go_roundw
      case rel =>
        refine ⟨k + 1, by omega, by go_num, ?_, HB1.out⟩
        rw [take_snoc_ HTI.out, entCells_snoc]; exact HO1.out
      case measure => simp [intOf]; omega
    · obtain rfl : k = k0 := by omega
      have HO := Lib.hid hown
      have HB := Lib.hid hbel
      obtain ⟨av, cv, rfl, _⟩ := own_shape hown
      clear hown hbel
      have HLT : Hid ((l.take k).length = k) := Lib.hid (by rw [List.length_take, HN.out]; omega)
      by_cases hend : k < n
      · obtain ⟨⟨t, i⟩, hti⟩ : ∃ x, l[k]? = some x := ⟨_, List.getElem?_eq_getElem (by rw [HN.out]; exact hend)⟩
        obtain ⟨b, rfl, hbl, x1, x2⟩ := row_pair HR.out hti HN.out
        simp only [strV] at x1
        have hts : Op.bytesLess t s = false := by rw [bytesLess_eq]; exact decide_eq_false (epos_at (l := l) (i := i) (by rw [← HK0.out]; exact hti))
        have y1 : wr.cell? ⟨b, k * 2, none⟩ = some (.string ⟨t.toArray⟩) := (HB.out.cell hbl).trans x1
        have HTI := Lib.hid hti
        have X1 := Lib.hid x1
        clear x1 x2 hti
        by_cases he : t = s
        · subst he
          have HES0 : Hid (∀ oo, eset l t oo = l.take k ++ (match oo with | none => [] | some i => [(t, i)]) ++ l.drop (k + 1)) := Lib.hid (fun oo => by unfold eset; rw [← HK0.out, if_pos (by rw [HTI.out]; rfl)])
          obtain ⟨s, rfl⟩ : ∃ s : Nm, s = t := ⟨_, rfl⟩
          cases o with
          | none =>
            have HOO : Hid ((none : Option Nat) = none) := Lib.hid rfl
            obtain rfl : z = -1 := HZ.out
            go_wp2_with fail
            have HOA : Hid (wr.ownsRow w.heap.size 153 2 (.slice av k cv) k (entCells (l.take k))) := HO
            have HLA := HLT
            have HES : Hid ((l.take k) ++ l.drop (k + 1) = eset l s none) := Lib.hid (by have q := (HES0.out none).symm; simpa using q)
            obtain ⟨lst, hlst⟩ : ∃ x, x = (l.take k) := ⟨_, rfl⟩
            rw [← hlst] at HOA HLA HES
            clear hlst
            obtain ⟨kk, hkk⟩ : ∃ x, x = k + 1 := ⟨_, rfl⟩
            rw [← hkk] at HES
            have hkn : kk ≤ n := by omega
            have hkk2 : k ≤ kk := by omega
            have HKK := Lib.hid hkk
            clear hkk
            have HBW := HB
            go_loopw [7, 8] (fun v i wz => ∃ j : Nat, kk ≤ j ∧ j ≤ n ∧ i = .int .i64 j ∧ wz.ownsRow w.heap.size 153 2 v (k + (j - kk)) (entCells (lst ++ (l.drop kk).take (j - kk))) ∧ Below w.heap.size w wz) (fun _ i _ => n - (intOf i).toNat)
            case atStart => exact ⟨kk, Nat.le_refl _, hkn, by first | rfl | (rw [HKK.out]; done) | (rw [HKK.out]; go_num), by rw [Nat.sub_self, List.take_zero, List.append_nil, Nat.add_zero]; exact HOA.out, HBW.out⟩
            case round =>
              obtain ⟨j, hj0, hjn, rfl, hown, hbel⟩ := hrel
              have hszz := hbel.size
              have HOZ := Lib.hid hown
              have HBZ := Lib.hid hbel
              clear hown hbel
              obtain ⟨avz, cvz, rfl, _⟩ := own_shape HOZ.out
              by_cases hjl : j < n
              · obtain ⟨⟨u, i⟩, hui⟩ : ∃ x, l[j]? = some x := ⟨_, List.getElem?_eq_getElem (by rw [HN.out]; exact hjl)⟩
                obtain ⟨b, hbe, hbl, x1, x2⟩ := row_pair HR.out hui HN.out
                cases hbe
                simp only [strV] at x1
                simp only [intZ] at x2
                have z1 : wr.cell? ⟨b, j * 2, none⟩ = some (.string ⟨u.toArray⟩) := (HBZ.out.cell hbl).trans x1
                have z2 : wr.cell? ⟨b, j * 2 + 1, none⟩ = some (.int .i64 i) := (HBZ.out.cell hbl).trans x2
                have HUI := Lib.hid hui
                have hnj : k + (j - kk) ≤ 2199023255553 := by omega
                clear hui x1 x2
                go_wp2_with (at_builtin; go_must (refine wpList_append_any _ rfl (.tmp 58) (.tmp 63) 155 rfl w.heap.size 153 i0 _ 2 24 Tryz.underlying155 hi0 hz0 hz1 hz2 rfl (by omega) _ (k + (j - kk)) _ rfl (HOZ.out.alloc _) (wr.heap.size + 1) (some ⟨wr.heap.size, 0, none⟩) 1 1 [.string ⟨u.toArray⟩, .int .i64 i] rfl (by exact reads_blk (t := 153) (blk_last _ _ _ _ rfl) (by omega) rfl) (by intro u hu; simp at hu; rcases hu with rfl | rfl <;> rfl) (by simp only [maxLen]; omega) (by omega) (by simp; omega) ?_); intro v1 w1 hown1 hg1 hat1; have HOY := Lib.hid hown1; have HBY : Hid (Below w.heap.size w w1) := Lib.hid ((HBZ.out.alloc hszz _).grown hg1 (by simp; omega) (fun k hk => (HOZ.out.lt k hk).1)); clear hown1 hg1 hat1; obtain ⟨av1, cv1, rfl, _⟩ := own_shape HOY.out; have hszy : w.heap.size ≤ w1.heap.size := HBY.out.size)
                go_roundw
                case rel =>
                  refine ⟨j + 1, by omega, by omega, by go_num, ?_, HBY.out⟩
                  have e : (l.drop kk).take (j + 1 - kk) = (l.drop kk).take (j - kk) ++ [(u, i)] := by
                    rw [show j + 1 - kk = (j - kk) + 1 by omega]
                    exact take_snoc_ (by rw [List.getElem?_drop, show kk + (j - kk) = j by omega]; exact HUI.out)
                  rw [e, ← List.append_assoc, entCells_snoc, show k + (j + 1 - kk) = k + (j - kk) + 1 by omega]
                  exact HOY.out
                case measure => simp [intOf]; omega
              · go_wp2_with fail
                go_ret
                have hjn2 : n ≤ j := by omega
                refine ⟨_, rfl, ?_, HBZ.out⟩
                have e : lst ++ (l.drop kk).take (j - kk) = eset l s none := by rw [← HES.out, List.take_of_length_le (by rw [List.length_drop, HN.out]; omega)]
                have e2 : (eset l s none).length = k + (j - kk) := by rw [← e, List.length_append, HLA.out, List.length_take, List.length_drop, HN.out]; omega
                rw [e2, ← e]
                exact HOZ.out
          | some m =>
            have HOO : Hid ((some m : Option Nat) = some m) := Lib.hid rfl
            obtain rfl : z = (m : Int) := HZ.out
            have hmb := HM.out m rfl
            go_wp2_with (at_builtin; go_must (refine wpList_append_any _ rfl (.tmp 33) (.tmp 37) 155 rfl w.heap.size 153 i0 _ 2 24 Tryz.underlying155 hi0 hz0 hz1 hz2 rfl (by omega) _ k _ rfl (HO.out.alloc _) (wr.heap.size + 1) (some ⟨wr.heap.size, 0, none⟩) 1 1 [.string ⟨s.toArray⟩, .int .i64 m] rfl (by exact reads_blk (t := 153) (blk_last _ _ _ _ rfl) (by omega) rfl) (by intro u hu; simp at hu; rcases hu with rfl | rfl <;> rfl) (by simp only [maxLen]; omega) (by omega) (by simp; omega) ?_); intro v1 w1 hown1 hg1 hat1; have HO1 := Lib.hid hown1; have HB1 : Hid (Below w.heap.size w w1) := Lib.hid ((HB.out.alloc hsz _).grown hg1 (by simp; omega) (fun k hk => (HO.out.lt k hk).1)); clear hown1 hg1 hat1; obtain ⟨av1, cv1, rfl, _⟩ := own_shape HO1.out; have hsz1 : w.heap.size ≤ w1.heap.size := HB1.out.size; have y1w : w1.cell? ⟨b, k * 2, none⟩ = some (.string ⟨s.toArray⟩) := (HB1.out.cell hbl).trans X1.out)
            have HOA : Hid (w1.ownsRow w.heap.size 153 2 (.slice av1 (k + 1) cv1) (k + 1) (entCells (l.take k ++ [(s, m)]))) := Lib.hid (by rw [entCells_snoc]; exact HO1.out)
            have HLA : Hid ((l.take k ++ [(s, m)]).length = k + 1) := Lib.hid (by rw [List.length_append, HLT.out]; rfl)
            have HES : Hid ((l.take k ++ [(s, m)]) ++ l.drop (k + 1) = eset l s (some m)) := Lib.hid (by exact (HES0.out (some m)).symm)
            obtain ⟨lst, hlst⟩ : ∃ x, x = (l.take k ++ [(s, m)]) := ⟨_, rfl⟩
            rw [← hlst] at HOA HLA HES
            clear hlst
            obtain ⟨kk, hkk⟩ : ∃ x, x = k + 1 := ⟨_, rfl⟩
            rw [← hkk] at HES
            have hkn : kk ≤ n := by omega
            have hkk2 : k ≤ kk := by omega
            have HKK := Lib.hid hkk
            clear hkk
            have HBW := HB1
            go_loopw [7, 8] (fun v i wz => ∃ j : Nat, kk ≤ j ∧ j ≤ n ∧ i = .int .i64 j ∧ wz.ownsRow w.heap.size 153 2 v (k + 1 + (j - kk)) (entCells (lst ++ (l.drop kk).take (j - kk))) ∧ Below w.heap.size w wz) (fun _ i _ => n - (intOf i).toNat)
            case atStart => exact ⟨kk, Nat.le_refl _, hkn, by first | rfl | (rw [HKK.out]; done) | (rw [HKK.out]; go_num), by rw [Nat.sub_self, List.take_zero, List.append_nil, Nat.add_zero]; exact HOA.out, HBW.out⟩
            case round =>
              obtain ⟨j, hj0, hjn, rfl, hown, hbel⟩ := hrel
              have hszz := hbel.size
              have HOZ := Lib.hid hown
              have HBZ := Lib.hid hbel
              clear hown hbel
              obtain ⟨avz, cvz, rfl, _⟩ := own_shape HOZ.out
              by_cases hjl : j < n
              · obtain ⟨⟨u, i⟩, hui⟩ : ∃ x, l[j]? = some x := ⟨_, List.getElem?_eq_getElem (by rw [HN.out]; exact hjl)⟩
                obtain ⟨b, hbe, hbl, x1, x2⟩ := row_pair HR.out hui HN.out
                cases hbe
                simp only [strV] at x1
                simp only [intZ] at x2
                have z1 : wr.cell? ⟨b, j * 2, none⟩ = some (.string ⟨u.toArray⟩) := (HBZ.out.cell hbl).trans x1
                have z2 : wr.cell? ⟨b, j * 2 + 1, none⟩ = some (.int .i64 i) := (HBZ.out.cell hbl).trans x2
                have HUI := Lib.hid hui
                have hnj : k + 1 + (j - kk) ≤ 2199023255553 := by omega
                clear hui x1 x2
                go_wp2_with (at_builtin; go_must (refine wpList_append_any _ rfl (.tmp 58) (.tmp 63) 155 rfl w.heap.size 153 i0 _ 2 24 Tryz.underlying155 hi0 hz0 hz1 hz2 rfl (by omega) _ (k + 1 + (j - kk)) _ rfl (HOZ.out.alloc _) (wr.heap.size + 1) (some ⟨wr.heap.size, 0, none⟩) 1 1 [.string ⟨u.toArray⟩, .int .i64 i] rfl (by exact reads_blk (t := 153) (blk_last _ _ _ _ rfl) (by omega) rfl) (by intro u hu; simp at hu; rcases hu with rfl | rfl <;> rfl) (by simp only [maxLen]; omega) (by omega) (by simp; omega) ?_); intro v1 w1 hown1 hg1 hat1; have HOY := Lib.hid hown1; have HBY : Hid (Below w.heap.size w w1) := Lib.hid ((HBZ.out.alloc hszz _).grown hg1 (by simp; omega) (fun k hk => (HOZ.out.lt k hk).1)); clear hown1 hg1 hat1; obtain ⟨av1, cv1, rfl, _⟩ := own_shape HOY.out; have hszy : w.heap.size ≤ w1.heap.size := HBY.out.size)
                go_roundw
                case rel =>
                  refine ⟨j + 1, by omega, by omega, by go_num, ?_, HBY.out⟩
                  have e : (l.drop kk).take (j + 1 - kk) = (l.drop kk).take (j - kk) ++ [(u, i)] := by
                    rw [show j + 1 - kk = (j - kk) + 1 by omega]
                    exact take_snoc_ (by rw [List.getElem?_drop, show kk + (j - kk) = j by omega]; exact HUI.out)
                  rw [e, ← List.append_assoc, entCells_snoc, show k + 1 + (j + 1 - kk) = k + 1 + (j - kk) + 1 by omega]
                  exact HOY.out
                case measure => simp [intOf]; omega
              · go_wp2_with fail
                go_ret
                have hjn2 : n ≤ j := by omega
                refine ⟨_, rfl, ?_, HBZ.out⟩
                have e : lst ++ (l.drop kk).take (j - kk) = eset l s (some m) := by rw [← HES.out, List.take_of_length_le (by rw [List.length_drop, HN.out]; omega)]
                have e2 : (eset l s (some m)).length = k + 1 + (j - kk) := by rw [← e, List.length_append, HLA.out, List.length_take, List.length_drop, HN.out]; omega
                rw [e2, ← e]
                exact HOZ.out
        · have hne : (t == s) = false := by simpa using he
          have HNE := Lib.hid he
          have HES0 : Hid (∀ oo, eset l s oo = l.take k ++ (match oo with | none => [] | some i => [(s, i)]) ++ l.drop k) := Lib.hid (fun oo => by unfold eset; rw [← HK0.out, if_neg (by rw [HTI.out]; intro e; injection e with e; exact HNE.out e)])
          clear he
          cases o with
          | none =>
            have HOO : Hid ((none : Option Nat) = none) := Lib.hid rfl
            obtain rfl : z = -1 := HZ.out
            go_wp2_with fail
            have HOA : Hid (wr.ownsRow w.heap.size 153 2 (.slice av k cv) k (entCells (l.take k))) := HO
            have HLA := HLT
            have HES : Hid ((l.take k) ++ l.drop (k) = eset l s none) := Lib.hid (by have q := (HES0.out none).symm; simpa using q)
            obtain ⟨lst, hlst⟩ : ∃ x, x = (l.take k) := ⟨_, rfl⟩
            rw [← hlst] at HOA HLA HES
            clear hlst
            obtain ⟨kk, hkk⟩ : ∃ x, x = k := ⟨_, rfl⟩
            rw [← hkk] at HES
            have hkn : kk ≤ n := by omega
            have hkk2 : k ≤ kk := by omega
            have HKK := Lib.hid hkk
            clear hkk
            have HBW := HB
            go_loopw [7, 8] (fun v i wz => ∃ j : Nat, kk ≤ j ∧ j ≤ n ∧ i = .int .i64 j ∧ wz.ownsRow w.heap.size 153 2 v (k + (j - kk)) (entCells (lst ++ (l.drop kk).take (j - kk))) ∧ Below w.heap.size w wz) (fun _ i _ => n - (intOf i).toNat)
            case atStart => exact ⟨kk, Nat.le_refl _, hkn, by first | rfl | (rw [HKK.out]; done) | (rw [HKK.out]; go_num), by rw [Nat.sub_self, List.take_zero, List.append_nil, Nat.add_zero]; exact HOA.out, HBW.out⟩
            case round =>
              obtain ⟨j, hj0, hjn, rfl, hown, hbel⟩ := hrel
              have hszz := hbel.size
              have HOZ := Lib.hid hown
              have HBZ := Lib.hid hbel
              clear hown hbel
              obtain ⟨avz, cvz, rfl, _⟩ := own_shape HOZ.out
              by_cases hjl : j < n
              · obtain ⟨⟨u, i⟩, hui⟩ : ∃ x, l[j]? = some x := ⟨_, List.getElem?_eq_getElem (by rw [HN.out]; exact hjl)⟩
                obtain ⟨b, hbe, hbl, x1, x2⟩ := row_pair HR.out hui HN.out
                cases hbe
                simp only [strV] at x1
                simp only [intZ] at x2
                have z1 : wr.cell? ⟨b, j * 2, none⟩ = some (.string ⟨u.toArray⟩) := (HBZ.out.cell hbl).trans x1
                have z2 : wr.cell? ⟨b, j * 2 + 1, none⟩ = some (.int .i64 i) := (HBZ.out.cell hbl).trans x2
                have HUI := Lib.hid hui
                have hnj : k + (j - kk) ≤ 2199023255553 := by omega
                clear hui x1 x2
                go_wp2_with (at_builtin; go_must (refine wpList_append_any _ rfl (.tmp 58) (.tmp 63) 155 rfl w.heap.size 153 i0 _ 2 24 Tryz.underlying155 hi0 hz0 hz1 hz2 rfl (by omega) _ (k + (j - kk)) _ rfl (HOZ.out.alloc _) (wr.heap.size + 1) (some ⟨wr.heap.size, 0, none⟩) 1 1 [.string ⟨u.toArray⟩, .int .i64 i] rfl (by exact reads_blk (t := 153) (blk_last _ _ _ _ rfl) (by omega) rfl) (by intro u hu; simp at hu; rcases hu with rfl | rfl <;> rfl) (by simp only [maxLen]; omega) (by omega) (by simp; omega) ?_); intro v1 w1 hown1 hg1 hat1; have HOY := Lib.hid hown1; have HBY : Hid (Below w.heap.size w w1) := Lib.hid ((HBZ.out.alloc hszz _).grown hg1 (by simp; omega) (fun k hk => (HOZ.out.lt k hk).1)); clear hown1 hg1 hat1; obtain ⟨av1, cv1, rfl, _⟩ := own_shape HOY.out; have hszy : w.heap.size ≤ w1.heap.size := HBY.out.size)
                go_roundw
                case rel =>
                  refine ⟨j + 1, by omega, by omega, by go_num, ?_, HBY.out⟩
                  have e : (l.drop kk).take (j + 1 - kk) = (l.drop kk).take (j - kk) ++ [(u, i)] := by
                    rw [show j + 1 - kk = (j - kk) + 1 by omega]
                    exact take_snoc_ (by rw [List.getElem?_drop, show kk + (j - kk) = j by omega]; exact HUI.out)
                  rw [e, ← List.append_assoc, entCells_snoc, show k + (j + 1 - kk) = k + (j - kk) + 1 by omega]
                  exact HOY.out
                case measure => simp [intOf]; omega
              · go_wp2_with fail
                go_ret
                have hjn2 : n ≤ j := by omega
                refine ⟨_, rfl, ?_, HBZ.out⟩
                have e : lst ++ (l.drop kk).take (j - kk) = eset l s none := by rw [← HES.out, List.take_of_length_le (by rw [List.length_drop, HN.out]; omega)]
                have e2 : (eset l s none).length = k + (j - kk) := by rw [← e, List.length_append, HLA.out, List.length_take, List.length_drop, HN.out]; omega
                rw [e2, ← e]
                exact HOZ.out
          | some m =>
            have HOO : Hid ((some m : Option Nat) = some m) := Lib.hid rfl
            obtain rfl : z = (m : Int) := HZ.out
            have hmb := HM.out m rfl
            go_wp2_with (at_builtin; go_must (refine wpList_append_any _ rfl (.tmp 33) (.tmp 37) 155 rfl w.heap.size 153 i0 _ 2 24 Tryz.underlying155 hi0 hz0 hz1 hz2 rfl (by omega) _ k _ rfl (HO.out.alloc _) (wr.heap.size + 1) (some ⟨wr.heap.size, 0, none⟩) 1 1 [.string ⟨s.toArray⟩, .int .i64 m] rfl (by exact reads_blk (t := 153) (blk_last _ _ _ _ rfl) (by omega) rfl) (by intro u hu; simp at hu; rcases hu with rfl | rfl <;> rfl) (by simp only [maxLen]; omega) (by omega) (by simp; omega) ?_); intro v1 w1 hown1 hg1 hat1; have HO1 := Lib.hid hown1; have HB1 : Hid (Below w.heap.size w w1) := Lib.hid ((HB.out.alloc hsz _).grown hg1 (by simp; omega) (fun k hk => (HO.out.lt k hk).1)); clear hown1 hg1 hat1; obtain ⟨av1, cv1, rfl, _⟩ := own_shape HO1.out; have hsz1 : w.heap.size ≤ w1.heap.size := HB1.out.size; have y1w : w1.cell? ⟨b, k * 2, none⟩ = some (.string ⟨t.toArray⟩) := (HB1.out.cell hbl).trans X1.out)
            have HOA : Hid (w1.ownsRow w.heap.size 153 2 (.slice av1 (k + 1) cv1) (k + 1) (entCells (l.take k ++ [(s, m)]))) := Lib.hid (by rw [entCells_snoc]; exact HO1.out)
            have HLA : Hid ((l.take k ++ [(s, m)]).length = k + 1) := Lib.hid (by rw [List.length_append, HLT.out]; rfl)
            have HES : Hid ((l.take k ++ [(s, m)]) ++ l.drop (k) = eset l s (some m)) := Lib.hid (by exact (HES0.out (some m)).symm)
            obtain ⟨lst, hlst⟩ : ∃ x, x = (l.take k ++ [(s, m)]) := ⟨_, rfl⟩
            rw [← hlst] at HOA HLA HES
            clear hlst
            obtain ⟨kk, hkk⟩ : ∃ x, x = k := ⟨_, rfl⟩
            rw [← hkk] at HES
            have hkn : kk ≤ n := by omega
            have hkk2 : k ≤ kk := by omega
            have HKK := Lib.hid hkk
            clear hkk
            have HBW := HB1
            go_loopw [7, 8] (fun v i wz => ∃ j : Nat, kk ≤ j ∧ j ≤ n ∧ i = .int .i64 j ∧ wz.ownsRow w.heap.size 153 2 v (k + 1 + (j - kk)) (entCells (lst ++ (l.drop kk).take (j - kk))) ∧ Below w.heap.size w wz) (fun _ i _ => n - (intOf i).toNat)
            case atStart => exact ⟨kk, Nat.le_refl _, hkn, by first | rfl | (rw [HKK.out]; done) | (rw [HKK.out]; go_num), by rw [Nat.sub_self, List.take_zero, List.append_nil, Nat.add_zero]; exact HOA.out, HBW.out⟩
            case round =>
              obtain ⟨j, hj0, hjn, rfl, hown, hbel⟩ := hrel
              have hszz := hbel.size
              have HOZ := Lib.hid hown
              have HBZ := Lib.hid hbel
              clear hown hbel
              obtain ⟨avz, cvz, rfl, _⟩ := own_shape HOZ.out
              by_cases hjl : j < n
              · obtain ⟨⟨u, i⟩, hui⟩ : ∃ x, l[j]? = some x := ⟨_, List.getElem?_eq_getElem (by rw [HN.out]; exact hjl)⟩
                obtain ⟨b, hbe, hbl, x1, x2⟩ := row_pair HR.out hui HN.out
                cases hbe
                simp only [strV] at x1
                simp only [intZ] at x2
                have z1 : wr.cell? ⟨b, j * 2, none⟩ = some (.string ⟨u.toArray⟩) := (HBZ.out.cell hbl).trans x1
                have z2 : wr.cell? ⟨b, j * 2 + 1, none⟩ = some (.int .i64 i) := (HBZ.out.cell hbl).trans x2
                have HUI := Lib.hid hui
                have hnj : k + 1 + (j - kk) ≤ 2199023255553 := by omega
                clear hui x1 x2
                go_wp2_with (at_builtin; go_must (refine wpList_append_any _ rfl (.tmp 58) (.tmp 63) 155 rfl w.heap.size 153 i0 _ 2 24 Tryz.underlying155 hi0 hz0 hz1 hz2 rfl (by omega) _ (k + 1 + (j - kk)) _ rfl (HOZ.out.alloc _) (wr.heap.size + 1) (some ⟨wr.heap.size, 0, none⟩) 1 1 [.string ⟨u.toArray⟩, .int .i64 i] rfl (by exact reads_blk (t := 153) (blk_last _ _ _ _ rfl) (by omega) rfl) (by intro u hu; simp at hu; rcases hu with rfl | rfl <;> rfl) (by simp only [maxLen]; omega) (by omega) (by simp; omega) ?_); intro v1 w1 hown1 hg1 hat1; have HOY := Lib.hid hown1; have HBY : Hid (Below w.heap.size w w1) := Lib.hid ((HBZ.out.alloc hszz _).grown hg1 (by simp; omega) (fun k hk => (HOZ.out.lt k hk).1)); clear hown1 hg1 hat1; obtain ⟨av1, cv1, rfl, _⟩ := own_shape HOY.out; have hszy : w.heap.size ≤ w1.heap.size := HBY.out.size)
                go_roundw
                case rel =>
                  refine ⟨j + 1, by omega, by omega, by go_num, ?_, HBY.out⟩
                  have e : (l.drop kk).take (j + 1 - kk) = (l.drop kk).take (j - kk) ++ [(u, i)] := by
                    rw [show j + 1 - kk = (j - kk) + 1 by omega]
                    exact take_snoc_ (by rw [List.getElem?_drop, show kk + (j - kk) = j by omega]; exact HUI.out)
                  rw [e, ← List.append_assoc, entCells_snoc, show k + 1 + (j + 1 - kk) = k + 1 + (j - kk) + 1 by omega]
                  exact HOY.out
                case measure => simp [intOf]; omega
              · go_wp2_with fail
                go_ret
                have hjn2 : n ≤ j := by omega
                refine ⟨_, rfl, ?_, HBZ.out⟩
                have e : lst ++ (l.drop kk).take (j - kk) = eset l s (some m) := by rw [← HES.out, List.take_of_length_le (by rw [List.length_drop, HN.out]; omega)]
                have e2 : (eset l s (some m)).length = k + 1 + (j - kk) := by rw [← e, List.length_append, HLA.out, List.length_take, List.length_drop, HN.out]; omega
                rw [e2, ← e]
                exact HOZ.out
      · have hnk : n ≤ k := by omega
        have HES0 : Hid (∀ oo, eset l s oo = l.take k ++ (match oo with | none => [] | some i => [(s, i)]) ++ l.drop k) := Lib.hid (fun oo => by unfold eset; rw [← HK0.out, if_neg (by rw [List.getElem?_eq_none (by rw [HN.out]; exact hnk)]; simp)])
        cases o with
        | none =>
          have HOO : Hid ((none : Option Nat) = none) := Lib.hid rfl
          obtain rfl : z = -1 := HZ.out
          go_wp2_with fail
          have HOA : Hid (wr.ownsRow w.heap.size 153 2 (.slice av k cv) k (entCells (l.take k))) := HO
          have HLA := HLT
          have HES : Hid ((l.take k) ++ l.drop (k) = eset l s none) := Lib.hid (by have q := (HES0.out none).symm; simpa using q)
          obtain ⟨lst, hlst⟩ : ∃ x, x = (l.take k) := ⟨_, rfl⟩
          rw [← hlst] at HOA HLA HES
          clear hlst
          obtain ⟨kk, hkk⟩ : ∃ x, x = k := ⟨_, rfl⟩
          rw [← hkk] at HES
          have hkn : kk ≤ n := by omega
          have hkk2 : k ≤ kk := by omega
          have HKK := Lib.hid hkk
          clear hkk
          have HBW := HB
          go_loopw [7, 8] (fun v i wz => ∃ j : Nat, kk ≤ j ∧ j ≤ n ∧ i = .int .i64 j ∧ wz.ownsRow w.heap.size 153 2 v (k + (j - kk)) (entCells (lst ++ (l.drop kk).take (j - kk))) ∧ Below w.heap.size w wz) (fun _ i _ => n - (intOf i).toNat)
          case atStart => exact ⟨kk, Nat.le_refl _, hkn, by first | rfl | (rw [HKK.out]; done) | (rw [HKK.out]; go_num), by rw [Nat.sub_self, List.take_zero, List.append_nil, Nat.add_zero]; exact HOA.out, HBW.out⟩
          case round =>
            obtain ⟨j, hj0, hjn, rfl, hown, hbel⟩ := hrel
            have hszz := hbel.size
            have HOZ := Lib.hid hown
            have HBZ := Lib.hid hbel
            clear hown hbel
            obtain ⟨avz, cvz, rfl, _⟩ := own_shape HOZ.out
            have hjl : ¬ j < n := by omega
            · go_wp2_with fail
              go_ret
              have hjn2 : n ≤ j := by omega
              refine ⟨_, rfl, ?_, HBZ.out⟩
              have e : lst ++ (l.drop kk).take (j - kk) = eset l s none := by rw [← HES.out, List.take_of_length_le (by rw [List.length_drop, HN.out]; omega)]
              have e2 : (eset l s none).length = k + (j - kk) := by rw [← e, List.length_append, HLA.out, List.length_take, List.length_drop, HN.out]; omega
              rw [e2, ← e]
              exact HOZ.out
        | some m =>
          have HOO : Hid ((some m : Option Nat) = some m) := Lib.hid rfl
          obtain rfl : z = (m : Int) := HZ.out
          have hmb := HM.out m rfl
          go_wp2_with (at_builtin; go_must (refine wpList_append_any _ rfl (.tmp 33) (.tmp 37) 155 rfl w.heap.size 153 i0 _ 2 24 Tryz.underlying155 hi0 hz0 hz1 hz2 rfl (by omega) _ k _ rfl (HO.out.alloc _) (wr.heap.size + 1) (some ⟨wr.heap.size, 0, none⟩) 1 1 [.string ⟨s.toArray⟩, .int .i64 m] rfl (by exact reads_blk (t := 153) (blk_last _ _ _ _ rfl) (by omega) rfl) (by intro u hu; simp at hu; rcases hu with rfl | rfl <;> rfl) (by simp only [maxLen]; omega) (by omega) (by simp; omega) ?_); intro v1 w1 hown1 hg1 hat1; have HO1 := Lib.hid hown1; have HB1 : Hid (Below w.heap.size w w1) := Lib.hid ((HB.out.alloc hsz _).grown hg1 (by simp; omega) (fun k hk => (HO.out.lt k hk).1)); clear hown1 hg1 hat1; obtain ⟨av1, cv1, rfl, _⟩ := own_shape HO1.out; have hsz1 : w.heap.size ≤ w1.heap.size := HB1.out.size)
          have HOA : Hid (w1.ownsRow w.heap.size 153 2 (.slice av1 (k + 1) cv1) (k + 1) (entCells (l.take k ++ [(s, m)]))) := Lib.hid (by rw [entCells_snoc]; exact HO1.out)
          have HLA : Hid ((l.take k ++ [(s, m)]).length = k + 1) := Lib.hid (by rw [List.length_append, HLT.out]; rfl)
          have HES : Hid ((l.take k ++ [(s, m)]) ++ l.drop (k) = eset l s (some m)) := Lib.hid (by exact (HES0.out (some m)).symm)
          obtain ⟨lst, hlst⟩ : ∃ x, x = (l.take k ++ [(s, m)]) := ⟨_, rfl⟩
          rw [← hlst] at HOA HLA HES
          clear hlst
          obtain ⟨kk, hkk⟩ : ∃ x, x = k := ⟨_, rfl⟩
          rw [← hkk] at HES
          have hkn : kk ≤ n := by omega
          have hkk2 : k ≤ kk := by omega
          have HKK := Lib.hid hkk
          clear hkk
          have HBW := HB1
          go_loopw [7, 8] (fun v i wz => ∃ j : Nat, kk ≤ j ∧ j ≤ n ∧ i = .int .i64 j ∧ wz.ownsRow w.heap.size 153 2 v (k + 1 + (j - kk)) (entCells (lst ++ (l.drop kk).take (j - kk))) ∧ Below w.heap.size w wz) (fun _ i _ => n - (intOf i).toNat)
          case atStart => exact ⟨kk, Nat.le_refl _, hkn, by first | rfl | (rw [HKK.out]; done) | (rw [HKK.out]; go_num), by rw [Nat.sub_self, List.take_zero, List.append_nil, Nat.add_zero]; exact HOA.out, HBW.out⟩
          case round =>
            obtain ⟨j, hj0, hjn, rfl, hown, hbel⟩ := hrel
            have hszz := hbel.size
            have HOZ := Lib.hid hown
            have HBZ := Lib.hid hbel
            clear hown hbel
            obtain ⟨avz, cvz, rfl, _⟩ := own_shape HOZ.out
            have hjl : ¬ j < n := by omega
            · go_wp2_with fail
              go_ret
              have hjn2 : n ≤ j := by omega
              refine ⟨_, rfl, ?_, HBZ.out⟩
              have e : lst ++ (l.drop kk).take (j - kk) = eset l s (some m) := by rw [← HES.out, List.take_of_length_le (by rw [List.length_drop, HN.out]; omega)]
              have e2 : (eset l s (some m)).length = k + 1 + (j - kk) := by rw [← e, List.length_append, HLA.out, List.length_take, List.length_drop, HN.out]; omega
              rw [e2, ← e]
              exact HOZ.out
end Go.Proofs.YtdmcjomcbhdcbaaGreat
