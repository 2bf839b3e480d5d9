/- What a drive may show of each name but the temporary file's, now and behind any loss of power. No program in sight. -/
import Derived.Test.YtdiaihpilniikaaGreatM25
import Derived.Test.YtdiaihpilniikaaGreatM11
namespace Go.Proofs.YtdiaihpilniikaaGreat
open Go.RowKit Go.Maps

theorem dget_stp {D : Dir} (h : Tidy D) (a : Nm) (o : Option Nat) (s : Nm) : dget (applyStp D (a, o)) s = if s = a then o else dget D s := by
  cases o with
  | none =>
    show dget (D.del (key a)) s = _
    by_cases e : s = a
    · subst e; rw [if_pos rfl, dget_del_same]
    · rw [if_neg e, dget_del_other e]
  | some i =>
    show dget (D.put (key a) (num i)) s = _
    by_cases e : s = a
    · subst e; rw [if_pos rfl, dget_put_same h.isMap]
    · rw [if_neg e, dget_put_other e]
theorem has_of_dget {D : Dir} {s : Nm} {i : Nat} (h : dget D s = some i) : has D (key s) = true := by
  cases hh : has D (key s) with
  | true => rfl
  | false =>
    have : D.atKey (key s) .nil = .nil := atKey_of_not_has hh .nil
    unfold dget at h
    rw [this] at h; cases h
theorem dget_of_not_has {D : Dir} {s : Nm} (h : has D (key s) = false) : dget D s = none := by
  have : D.atKey (key s) .nil = .nil := atKey_of_not_has h .nil
  unfold dget; rw [this]; rfl

theorem has_dnames {D : Dir} (hk : NmKeys D) (ht : Tidy D) {s : Nm} (h : has D (key s) = true) : s ∈ dnames D := by
  obtain ⟨es, rfl, _⟩ := ht
  rw [has_eq, List.any_eq_true] at h
  obtain ⟨p, hp, he⟩ := h
  rw [(dnames_perm _).mem_iff]
  exact List.mem_map.2 ⟨p, hp, by rw [sameKey_key he]; rfl⟩

/-- A name of the new directory behind a loss of power leads to its number among the names. -/
theorem dget_crashDir {D : Dir} (hk : NmKeys D) (ht : Tidy D) (hf : Full D) : ∀ k, k ≤ (dnames D).length → ∀ s, (∀ j, j < k → (dnames D)[j]? = some s → dget (Drv.crashDir D k) s = some j) ∧ (s ∉ (dnames D).take k → dget (Drv.crashDir D k) s = none)
  | 0, _, s => ⟨fun j hj => by omega, fun _ => rfl⟩
  | k + 1, hl, s => by
    have ih := dget_crashDir hk ht hf k (by omega) s
    have hkl : k < (dnames D).length := by omega
    have hg : (dnames D)[k]? = some ((dnames D).getD k []) := by rw [List.getElem?_eq_getElem hkl]; simp [List.getD, hkl]
    have hT := (crashDir_facts hk ht hf k (by omega)).1
    have hnd := dnames_nodup hk ht
    have e : dget (Drv.crashDir D (k + 1)) s = if s = (dnames D).getD k [] then some k else dget (Drv.crashDir D k) s := dget_stp hT ((dnames D).getD k []) (some k) s
    refine ⟨fun j hj hs => ?_, fun hs => ?_⟩
    · rw [e]
      by_cases hjk : j = k
      · subst hjk
        rw [hg] at hs; injection hs with hs
        rw [if_pos hs.symm]
      · have hjl : j < (dnames D).length := by omega
        have hne : s ≠ (dnames D).getD k [] := by
          intro h
          rw [h, ← hg] at hs
          rw [List.getElem?_eq_getElem hjl, List.getElem?_eq_getElem hkl] at hs
          injection hs with hs
          exact (List.pairwise_iff_getElem.1 hnd) j k hjl hkl (by omega) hs
        rw [if_neg hne]
        exact ih.1 j (by omega) hs
    · rw [List.take_add_one, hg] at hs
      simp only [Option.toList_some, List.mem_append, List.mem_singleton, not_or] at hs
      rw [e, if_neg hs.2]
      exact ih.2 hs.1

namespace Drv
/-- The bytes of a name's body. -/
def cont (S : Drv) (o : Option Nat) : Option (List UInt8) := o.map fun i => (S.body i).data
/-- What stands under a name. -/
def shows (S : Drv) (s : Nm) : Option (List UInt8) := S.cont (dget S.now s)
/-- A body that a name leads to, now, safely, or by what is pending. -/
def leads (S : Drv) (s : Nm) (i : Nat) : Prop := dget S.now s = some i ∨ dget S.kept s = some i ∨ ∃ c ∈ S.pending, (s, some i) ∈ c
end Drv
def tmpN : Nm := [116]
/-- What stands under each name but the temporary file's, and what any loss of power leaves, is as P says; all these bytes are safe. -/
structure Holds (S : Drv) (P : Nm → Option (List UInt8) → Prop) : Prop where
  now : ∀ s, s ≠ tmpN → P s (S.shows s)
  kept : ∀ s, s ≠ tmpN → P s (S.cont (dget S.kept s))
  pend : ∀ c ∈ S.pending, ∀ s o, (s, o) ∈ c → s ≠ tmpN → P s (S.cont o)
  whole : ∀ s i, s ≠ tmpN → S.leads s i → i < S.bodies.length ∧ (S.body i).safe = (S.body i).data.length
theorem Holds.mono {S : Drv} {P Q : Nm → Option (List UInt8) → Prop} (h : Holds S P) (hPQ : ∀ s x, s ≠ tmpN → P s x → Q s x) : Holds S Q :=
  ⟨fun s hs => hPQ s _ hs (h.now s hs), fun s hs => hPQ s _ hs (h.kept s hs), fun c hc s o ho hs => hPQ s _ hs (h.pend c hc s o ho hs), h.whole⟩

/-- Nothing turns but bodies that no such name leads to. -/
theorem Holds.bodies {S T : Drv} {P : Nm → Option (List UInt8) → Prop} (h : Holds S P) (hn : T.now = S.now) (hk : T.kept = S.kept) (hp : T.pending = S.pending) (hl : S.bodies.length ≤ T.bodies.length)
    (hb : ∀ s i, s ≠ tmpN → S.leads s i → (T.body i).data = (S.body i).data ∧ (T.body i).safe = (T.body i).data.length) : Holds T P := by
  have hleads : ∀ s i, T.leads s i ↔ S.leads s i := fun s i => by unfold Drv.leads; rw [hn, hk, hp]
  have hc : ∀ s o, s ≠ tmpN → (∀ i, o = some i → S.leads s i) → T.cont o = S.cont o := fun s o hs ho => by
    cases o with
    | none => rfl
    | some i => show some (T.body i).data = some (S.body i).data; rw [(hb s i hs (ho i rfl)).1]
  refine ⟨fun s hs => ?_, fun s hs => ?_, fun c hcm s o ho hs => ?_, fun s i hs hi => ?_⟩
  · unfold Drv.shows; rw [hn, hc s _ hs fun i e => .inl e]; exact h.now s hs
  · rw [hk, hc s _ hs fun i e => .inr (.inl e)]; exact h.kept s hs
  · rw [hp] at hcm
    rw [hc s o hs fun i e => .inr (.inr ⟨c, hcm, by rw [← e]; exact ho⟩)]; exact h.pend c hcm s o ho hs
  · rw [hleads] at hi
    exact ⟨Nat.lt_of_lt_of_le (h.whole s i hs hi).1 hl, (hb s i hs hi).2⟩

theorem Holds.bodies_shows {S T : Drv} (hn : T.now = S.now) (hb : ∀ s i, s ≠ tmpN → S.leads s i → (T.body i).data = (S.body i).data) : ∀ s, s ≠ tmpN → T.shows s = S.shows s := fun s hs => by
  unfold Drv.shows
  rw [hn]
  cases hg : dget S.now s with
  | none => rfl
  | some i => show some (T.body i).data = some (S.body i).data; rw [hb s i hs (.inl hg)]
theorem change_now (S : Drv) (c : List Stp) : (S.change c).now = applyC S.now c := Drv.chAll_now S c
theorem change_kept (S : Drv) (c : List Stp) : (S.change c).kept = S.kept := (Drv.chAll_bodies S c).2.2.1
theorem change_bodies (S : Drv) (c : List Stp) : (S.change c).bodies = S.bodies := (Drv.chAll_bodies S c).1
theorem change_pending (S : Drv) (c : List Stp) : (S.change c).pending = S.pending ++ [c] := by
  show (S.chAll c).pending ++ [c] = _
  rw [(Drv.chAll_bodies S c).2.2.2]
theorem change_body (S : Drv) (c : List Stp) (i : Nat) : (S.change c).body i = S.body i := by unfold Drv.body; rw [change_bodies]
theorem change_cont (S : Drv) (c : List Stp) (o : Option Nat) : (S.change c).cont o = S.cont o := by
  cases o with
  | none => rfl
  | some i => show some ((S.change c).body i).data = some (S.body i).data; rw [change_body]

/-- A change of names. -/
theorem Holds.change {S : Drv} {P Q : Nm → Option (List UInt8) → Prop} (h : Holds S P) (ht : Tidy S.now) (c : List Stp) (hPQ : ∀ s x, s ≠ tmpN → P s x → Q s x)
    (hc : ∀ s o, (s, o) ∈ c → s ≠ tmpN → Q s (S.cont o) ∧ ∀ i, o = some i → i < S.bodies.length ∧ (S.body i).safe = (S.body i).data.length)
    (hsh : ∀ s, s ≠ tmpN → dget (applyC S.now c) s = dget S.now s ∨ ∃ o, (s, o) ∈ c ∧ dget (applyC S.now c) s = o) : Holds (S.change c) Q := by
  refine ⟨fun s hs => ?_, fun s hs => ?_, fun d hd s o ho hs => ?_, fun s i hs hi => ?_⟩
  · unfold Drv.shows
    rw [change_now, change_cont]
    rcases hsh s hs with e | ⟨o, ho, e⟩
    · rw [e]; exact hPQ s _ hs (h.now s hs)
    · rw [e]; exact (hc s o ho hs).1
  · rw [change_kept, change_cont]; exact hPQ s _ hs (h.kept s hs)
  · rw [change_pending] at hd
    rw [change_cont]
    rcases List.mem_append.1 hd with hd | hd
    · exact hPQ s _ hs (h.pend d hd s o ho hs)
    · rw [List.mem_singleton.1 hd] at ho; exact (hc s o ho hs).1
  · rw [change_bodies, change_body]
    unfold Drv.leads at hi
    rw [change_now, change_kept, change_pending] at hi
    rcases hi with e | e | ⟨d, hd, hm⟩
    · rcases hsh s hs with e' | ⟨o, ho, e'⟩
      · exact h.whole s i hs (.inl (e'.symm.trans e))
      · exact (hc s o ho hs).2 i (e'.symm.trans e)
    · exact h.whole s i hs (.inr (.inl e))
    · rcases List.mem_append.1 hd with hd | hd
      · exact h.whole s i hs (.inr (.inr ⟨d, hd, hm⟩))
      · rw [List.mem_singleton.1 hd] at hm; exact (hc s _ hm hs).2 i rfl

/-- A body that no name but the temporary file's leads to, and that this one leads to. -/
structure Fresh (S : Drv) (i : Nat) : Prop where
  here : dget S.now tmpN = some i
  no : ∀ s, s ≠ tmpN → ¬S.leads s i
  lt : i < S.bodies.length

theorem create_ok {S T : Drv} (h : S.create tmpN = (T, 0)) : T = ({ S with bodies := S.bodies ++ [⟨[], 0⟩] } : Drv).change [(tmpN, some S.bodies.length)] := by
  unfold Drv.create at h
  split at h
  · injection h with _ h; cases h
  · split at h
    · injection h with _ h; cases h
    · injection h with h _; exact h.symm
theorem create_no {S T : Drv} {x : Int} {s : Nm} (h : S.create s = (T, x)) (hx : x ≠ 0) : T = S := by
  unfold Drv.create at h
  split at h
  · injection h with h _; exact h.symm
  · split at h
    · injection h with h _; exact h.symm
    · injection h with _ h; exact absurd h.symm hx
theorem Holds.create {S T : Drv} {P : Nm → Option (List UInt8) → Prop} (h : Holds S P) (ht : Tidy S.now) (hc : S.create tmpN = (T, 0)) : Holds T P ∧ Fresh T S.bodies.length ∧ (T.body S.bodies.length).data = [] ∧ ∀ s, s ≠ tmpN → T.shows s = S.shows s := by
  rw [create_ok hc]
  generalize hS' : ({ S with bodies := S.bodies ++ [⟨[], 0⟩] } : Drv) = S'
  have e1 : S'.now = S.now := by rw [← hS']
  have e2 : S'.kept = S.kept := by rw [← hS']
  have e3 : S'.pending = S.pending := by rw [← hS']
  have e4 : S'.bodies = S.bodies ++ [⟨[], 0⟩] := by rw [← hS']
  have hb : ∀ i, i < S.bodies.length → S'.body i = S.body i := fun i hi => by unfold Drv.body; rw [e4, List.getD, List.getElem?_append_left hi]; rfl
  have hbn : S'.body S.bodies.length = ⟨[], 0⟩ := by unfold Drv.body; rw [e4, List.getD, List.getElem?_append_right (Nat.le_refl _)]; simp
  have h' : Holds S' P := h.bodies e1 e2 e3 (by rw [e4, List.length_append]; omega) fun s i hs hi => by
    have := h.whole s i hs hi
    rw [hb i this.1]; exact ⟨rfl, this.2⟩
  have hT : Tidy S'.now := by rw [e1]; exact ht
  have hap : ∀ s, dget (applyC S'.now [(tmpN, some S.bodies.length)]) s = if s = tmpN then some S.bodies.length else dget S'.now s := fun s => dget_stp hT tmpN (some S.bodies.length) s
  refine ⟨h'.change hT _ (fun _ _ _ hx => hx) (fun s o ho hs => ?_) (fun s hs => .inl ?_), ⟨?_, fun s hs hl => ?_, ?_⟩, ?_, ?_⟩
  · simp only [List.mem_singleton, Prod.mk.injEq] at ho; exact absurd ho.1 hs
  · rw [hap, if_neg hs]
  · rw [change_now, hap, if_pos rfl]
  · unfold Drv.leads at hl
    rw [change_now, hap, if_neg hs, change_kept, change_pending, e1, e2, e3] at hl
    rcases hl with e | e | ⟨d, hd, hm⟩
    · have := (h.whole s _ hs (.inl e)).1; omega
    · have := (h.whole s _ hs (.inr (.inl e))).1; omega
    · rcases List.mem_append.1 hd with hd | hd
      · have := (h.whole s _ hs (.inr (.inr ⟨d, hd, hm⟩))).1; omega
      · rw [List.mem_singleton.1 hd] at hm
        simp only [List.mem_singleton, Prod.mk.injEq] at hm; exact hs hm.1
  · rw [change_bodies, e4, List.length_append]; simp
  · rw [change_body, hbn]
  · intro s hs
    have e5 : S'.shows s = S.shows s := Holds.bodies_shows e1 (fun s i hs hi => by rw [hb i (h.whole s i hs hi).1]) s hs
    rw [← e5]
    unfold Drv.shows
    rw [change_now, hap, if_neg hs, change_cont]

/-- A body of the temporary file's turns. -/
theorem Holds.setBody {S : Drv} {P : Nm → Option (List UInt8) → Prop} (h : Holds S P) {i : Nat} (hf : Fresh S i) (B : Body) (u : Int) : Holds { S.setBody i B with used := u } P ∧ Fresh { S.setBody i B with used := u } i ∧ Drv.body { S.setBody i B with used := u } i = B ∧ ∀ s, s ≠ tmpN → Drv.shows { S.setBody i B with used := u } s = S.shows s := by
  have e0 : Drv.body { S.setBody i B with used := u } i = B := Drv.setBody_same S hf.lt B
  refine ⟨h.bodies rfl rfl rfl ?_ fun s j hs hj => ?_, ⟨hf.here, hf.no, ?_⟩, e0, Holds.bodies_shows rfl fun s j hs hj => ?_⟩
  · show _ ≤ (S.setBody i B).bodies.length
    rw [Drv.setBody_length]; exact Nat.le_refl _
  · have hne : j ≠ i := fun e => hf.no s hs (e ▸ hj)
    have e1 : Drv.body { S.setBody i B with used := u } j = S.body j := Drv.setBody_other S hne B
    rw [e1]; exact ⟨rfl, (h.whole s j hs hj).2⟩
  · show i < (S.setBody i B).bodies.length
    rw [Drv.setBody_length]; exact hf.lt
  · have hne : j ≠ i := fun e => hf.no s hs (e ▸ hj)
    have e1 : Drv.body { S.setBody i B with used := u } j = S.body j := Drv.setBody_other S hne B
    rw [e1]
theorem named_tmp : named tmpN = true := by decide
theorem find_fresh {S : Drv} {i : Nat} (hf : Fresh S i) : S.find tmpN = (some i, 0) := by
  unfold Drv.find
  rw [if_neg (by rw [named_tmp]; decide), hf.here]
theorem Holds.append {S T : Drv} {P : Nm → Option (List UInt8) → Prop} {x : Int} (h : Holds S P) {i : Nat} (hf : Fresh S i) (bs : List UInt8) (hc : S.append tmpN bs = (T, x)) :
    Holds T P ∧ Fresh T i ∧ (x = 0 → (T.body i).data = (S.body i).data ++ bs) ∧ ∀ s, s ≠ tmpN → T.shows s = S.shows s := by
  unfold Drv.append at hc
  rw [find_fresh hf] at hc
  simp only at hc
  split at hc
  · rename_i hb
    injection hc with hc _; subst hc
    exact ⟨h, hf, fun _ => by rw [hb, List.append_nil], fun _ _ => rfl⟩
  · split at hc
    · injection hc with hc hx; subst hc
      exact ⟨h, hf, fun e => (by rw [← hx] at e; cases e), fun _ _ => rfl⟩
    · injection hc with hc _; subst hc
      obtain ⟨a, b, c, d⟩ := h.setBody hf ⟨(S.body i).data ++ bs, (S.body i).safe⟩ (S.used + bs.length)
      exact ⟨a, b, fun _ => by rw [c], d⟩
theorem Holds.sync {S T : Drv} {P : Nm → Option (List UInt8) → Prop} {x : Int} (h : Holds S P) {i : Nat} (hf : Fresh S i) (hc : S.sync tmpN = (T, x)) :
    Holds T P ∧ Fresh T i ∧ x = 0 ∧ (T.body i).data = (S.body i).data ∧ (T.body i).safe = (T.body i).data.length ∧ ∀ s, s ≠ tmpN → T.shows s = S.shows s := by
  unfold Drv.sync at hc
  rw [find_fresh hf] at hc
  simp only at hc
  injection hc with hc hx
  obtain ⟨a, b, c, d⟩ := h.setBody hf ⟨(S.body i).data, S.len i⟩ S.used
  have e : ({ S.setBody i ⟨(S.body i).data, S.len i⟩ with used := S.used } : Drv) = S.setBody i ⟨(S.body i).data, S.len i⟩ := rfl
  rw [e, hc] at a b c d
  exact ⟨a, b, hx.symm, by rw [c], by rw [c]; rfl, d⟩
theorem Holds.rename {S T : Drv} {P : Nm → Option (List UInt8) → Prop} {x : Int} (h : Holds S P) (ht : Tidy S.now) {i : Nat} (hf : Fresh S i) (nm : Nm) (hn : named nm = true) (hnt : nm ≠ tmpN) (hw : (S.body i).safe = (S.body i).data.length) (hc : S.rename tmpN nm = (T, x)) :
    x = 0 ∧ Holds T (fun s y => P s y ∨ s = nm ∧ y = some (S.body i).data) ∧ T.shows nm = some (S.body i).data ∧ (∀ s, s ≠ tmpN → s ≠ nm → T.shows s = S.shows s) := by
  unfold Drv.rename at hc
  rw [if_neg (by rw [hn]; rintro ⟨_, h⟩; cases h), find_fresh hf] at hc
  simp only at hc
  rw [if_neg (Ne.symm hnt)] at hc
  injection hc with hc hx
  subst hc
  have t1 := (applyStp_tidy ht (tmpN, none)).1
  have hap : ∀ s, dget (applyC S.now [(tmpN, none), (nm, some i)]) s = if s = nm then some i else if s = tmpN then none else dget S.now s := fun s => by
    show dget (applyStp (applyStp S.now (tmpN, none)) (nm, some i)) s = _
    rw [dget_stp t1, dget_stp ht]
  refine ⟨hx.symm, h.change ht _ (fun _ _ _ hx => .inl hx) (fun s o ho hs => ?_) (fun s hs => ?_), ?_, fun s hs hsn => ?_⟩
  · simp only [List.mem_cons, Prod.mk.injEq, List.not_mem_nil, or_false] at ho
    rcases ho with ⟨e, _⟩ | ⟨rfl, rfl⟩
    · exact absurd e hs
    · exact ⟨.inr ⟨rfl, rfl⟩, fun j hj => by injection hj with hj; subst hj; exact ⟨hf.lt, hw⟩⟩
  · rw [hap]
    by_cases e : s = nm
    · subst e; rw [if_pos rfl]; exact .inr ⟨some i, by simp, rfl⟩
    · rw [if_neg e, if_neg hs]; exact .inl rfl
  · unfold Drv.shows
    rw [change_now, hap, if_pos rfl, change_cont]; rfl
  · unfold Drv.shows
    rw [change_now, hap, if_neg hsn, if_neg hs, change_cont]
theorem Holds.syncDir {S : Drv} {P : Nm → Option (List UInt8) → Prop} (h : Holds S P) : Holds S.syncDir (fun s y => P s y ∧ y = S.shows s) :=
  ⟨fun s hs => ⟨h.now s hs, rfl⟩, fun s hs => ⟨h.now s hs, rfl⟩, fun c hc => (by cases hc), fun s i hs hi => h.whole s i hs (by
    rcases hi with e | e | ⟨c, hc, _⟩
    · exact .inl e
    · exact .inl e
    · cases hc)⟩

/-- What a loss of power leaves. -/
theorem Holds.crashK {S : Drv} {P : Nm → Option (List UInt8) → Prop} {N : Nat} (h : Holds S P) (hI : S.Inv N) (dirs : List Bool) : ∀ k, k ≤ S.pending.length → ∀ s, s ≠ tmpN →
    P s (S.cont (dget (S.crashK dirs k) s)) ∧ ∀ i, dget (S.crashK dirs k) s = some i → S.leads s i
  | 0, _, s, hs => ⟨h.kept s hs, fun i e => .inr (.inl e)⟩
  | k + 1, hl, s, hs => by
    have ih := Holds.crashK h hI dirs k (by omega) s hs
    have hg : S.pending[k]? = some (S.pending.getD k []) := by rw [List.getElem?_eq_getElem (show k < S.pending.length by omega)]; simp [List.getD, show k < S.pending.length by omega]
    have hm : S.pending.getD k [] ∈ S.pending := List.mem_of_getElem? hg
    have hT := (crashK_facts hI dirs k (by omega)).2.1
    unfold Drv.crashK
    split
    · have key : ∀ (c : List Stp) (D : Dir), Tidy D → (∀ x ∈ c, x ∈ S.pending.getD k []) → (P s (S.cont (dget D s)) ∧ ∀ i, dget D s = some i → S.leads s i) → P s (S.cont (dget (applyC D c) s)) ∧ ∀ i, dget (applyC D c) s = some i → S.leads s i := by
        intro c
        induction c with
        | nil => intro D _ _ hd; exact hd
        | cons x c ihc =>
          intro D hD hx hd
          obtain ⟨a, o⟩ := x
          refine ihc (applyStp D (a, o)) (applyStp_tidy hD _).1 (fun y hy => hx y (List.mem_cons_of_mem _ hy)) ?_
          rw [dget_stp hD]
          by_cases e : s = a
          · subst e
            rw [if_pos rfl]
            have hmem := hx (s, o) List.mem_cons_self
            exact ⟨h.pend _ hm s o hmem hs, fun i ei => .inr (.inr ⟨_, hm, by rw [← ei]; exact hmem⟩)⟩
          · rw [if_neg e]; exact hd
      exact key _ _ hT (fun x hx => hx) ih
    · exact ih
theorem Holds.crash {S : Drv} {P : Nm → Option (List UInt8) → Prop} {N : Nat} (h : Holds S P) (hI : S.Inv N) (dirs : List Bool) (cuts : List Int) : Holds (S.crash dirs cuts) P := by
  have hK := h.crashK hI dirs S.pending.length (Nat.le_refl _)
  obtain ⟨f1, f2, f3, _⟩ := crashK_facts hI dirs S.pending.length (Nat.le_refl _)
  unfold Drv.crash
  generalize hD : S.crashK dirs S.pending.length = D at *
  generalize hM : (dnames D).length = M
  have hdg := dget_crashDir f3 f2 f1 M (by omega)
  have hbl : (S.crashAt D cuts M).bodies.length = M := by show ((List.range M).map _).length = M; simp
  have hbody : ∀ j, j < M → (S.crashAt D cuts M).body j = S.crashBody D cuts j := fun j hj => by
    unfold Drv.body Drv.crashAt
    simp only [List.getD, List.getElem?_map, List.getElem?_range hj, Option.map_some, Option.getD_some]
  -- a name but the temporary one, in the old directory and in the new one
  have main : ∀ s, s ≠ tmpN → (S.crashAt D cuts M).cont (dget (Drv.crashDir D M) s) = S.cont (dget D s) ∧ ∀ i, dget (Drv.crashDir D M) s = some i → i < M ∧ ((S.crashAt D cuts M).body i).safe = ((S.crashAt D cuts M).body i).data.length := by
    intro s hs
    cases hg : dget D s with
    | none =>
      have hno : s ∉ dnames D := fun hm => by
        obtain ⟨_, i, hi⟩ := f1 s (mem_dnames f3 f2 hm)
        rw [hg] at hi; cases hi
      have e := (hdg s).2 (fun hm => hno (List.mem_of_mem_take hm))
      rw [e]
      exact ⟨rfl, fun i hi => by cases hi⟩
    | some i =>
      have hm := has_dnames f3 f2 (has_of_dget hg)
      obtain ⟨j, hj, e⟩ := List.getElem_of_mem hm
      have hjs : (dnames D)[j]? = some s := by rw [List.getElem?_eq_getElem hj, e]
      have hjM : j < M := by omega
      have e1 := (hdg s).1 j hjM hjs
      have hw := (h.whole s i hs ((hK s hs).2 i hg)).2
      have hcb : S.crashBody D cuts j = ⟨(S.body i).data, (S.body i).data.length⟩ := by
        have ea : S.at_ D ((dnames D).getD j []) = S.body i := by
          unfold Drv.at_
          have : (dnames D).getD j [] = s := by rw [List.getD, hjs]; rfl
          rw [this, hg]; rfl
        have ec : S.cutN D cuts j = (S.body i).data.length := by
          unfold Drv.cutN; rw [ea, hw]; omega
        unfold Drv.crashBody
        rw [ea, ec, List.take_length]
      rw [e1]
      refine ⟨?_, fun k hk => ?_⟩
      · show some ((S.crashAt D cuts M).body j).data = some (S.body i).data
        rw [hbody j hjM, hcb]
      · injection hk with hk; subst hk
        exact ⟨hjM, by rw [hbody j hjM, hcb]⟩
  refine ⟨fun s hs => ?_, fun s hs => ?_, fun c hc => (by cases hc), fun s i hs hi => ?_⟩
  · show P s ((S.crashAt D cuts M).cont (dget (Drv.crashDir D M) s))
    rw [(main s hs).1]; exact (hK s hs).1
  · show P s ((S.crashAt D cuts M).cont (dget (Drv.crashDir D M) s))
    rw [(main s hs).1]; exact (hK s hs).1
  · rw [hbl]
    rcases hi with e | e | ⟨c, hc, _⟩
    · exact (main s hs).2 i e
    · exact (main s hs).2 i e
    · cases hc
end Go.Proofs.YtdiaihpilniikaaGreat
