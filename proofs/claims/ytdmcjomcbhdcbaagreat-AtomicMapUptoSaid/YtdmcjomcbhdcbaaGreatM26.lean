/- The document's drive, walked: Loose, Image, Safe.; The document's drive, walked: what turns a body: Sync, Append, Flip, Cut.; The document's drive, walked: Cut and Flip. -/
import Derived.Test.YtdmcjomcbhdcbaaGreatM25
import Derived.Test.YtdmcjomcbhdcbaaGreatM16
import Derived.BigQuiet
import Derived.Deep.RegionLaw
import Derived.Laws.OwnMore
set_option linter.unusedVariables false
namespace Go.Proofs.YtdmcjomcbhdcbaaGreat
open Go.RowKit Go.Maps

end Go.Proofs.YtdmcjomcbhdcbaaGreat
namespace Go.Proofs.YtdmcjomcbhdcbaaGreat
open Go.RowKit Go.Maps

theorem row_in {w : World} {b1 s1 n1 b2 s2 n2 n3 c2 g : Nat} {e1 e2 : TypeId} {v1 : Value} {x1 x2 : List Value} (h : w.ownsRow b1 e1 s1 v1 n1 x1) (h2 : w.ownsRow b2 e2 s2 (.slice (some ⟨g, 0, none⟩) n2 c2) n2 x2) (hne : e1 ≠ e2) (j : Nat) (u : Value) : (w.setCell ⟨g, j, none⟩ u).ownsRow b1 e1 s1 v1 n1 x1 :=
  row_grown h h2 (h2.stored j u).2 hne
theorem bodCells_cons (v : Value) (vs : List Value) (b : Body) (bs : List Body) : bodCells (v :: vs) (b :: bs) = v :: intZ (b.safe : Int) :: bodCells vs bs := rfl
theorem bodCells_sets (n : Nat) (dt : List UInt8) : ∀ (vals : List Value) (bs : List Body) (i : Nat), vals.length = bs.length → bodCells vals (bs.set i ⟨dt, n⟩) = (bodCells vals bs).set (i * 2 + 1) (intZ (n : Int))
  | [], [], i, _ => rfl
  | [], b :: bs, i, h => by simp at h
  | v :: vs, [], i, h => by simp at h
  | v :: vs, b :: bs, 0, h => rfl
  | v :: vs, b :: bs, i + 1, h => by
    have h1 := bodCells_sets n dt vs bs i (by simpa using h)
    rw [List.set_cons_succ, bodCells_cons, bodCells_cons, show (i + 1) * 2 + 1 = i * 2 + 1 + 1 + 1 by omega, List.set_cons_succ, List.set_cons_succ, ← h1]

theorem body_set_same (S : Drv) {i : Nat} (hi : i < S.bodies.length) (B : Body) : (S.setBody i B).body i = B := by
  unfold Drv.setBody Drv.body; simp [List.getD, hi]
theorem body_set_other (S : Drv) {i j : Nat} (h : j ≠ i) (B : Body) : (S.setBody i B).body j = S.body j := by
  unfold Drv.setBody Drv.body; simp [List.getD, h.symm]

section
variable {w : World} {p g c i : Nat} {S : Drv} {L : MLay}
theorem MdAt.setSafe (h : MdAt w p S L) (hv : L.vb = .slice (some ⟨g, 0, none⟩) S.bodies.length c) (hi : i < S.bodies.length) (n : Nat) :
    MdAt (w.setCell ⟨g, i * 2 + 1, none⟩ (.int .i64 n)) p (S.setBody i ⟨(S.body i).data, n⟩) L := by
  have hrow := h.rows.bod
  rw [hv] at hrow
  have car : ∀ {base size m : Nat} {e : TypeId} {v : Value} {xs : List Value}, w.ownsRow base e size v m xs → e ≠ 161 → (w.setCell ⟨g, i * 2 + 1, none⟩ (.int .i64 n)).ownsRow base e size v m xs := fun h1 h2 => row_in (n3 := 0) h1 hrow h2 _ _
  refine ⟨?_, ?_⟩
  · exact blk_grown h.head hrow (hrow.stored (i * 2 + 1) _).2 (by decide)
  · exact {
      bod := by
        have := (hrow.stored (i * 2 + 1) (.int .i64 n)).1
        show World.ownsRow _ _ _ _ L.vb (S.bodies.set i _).length (bodCells L.dat (S.bodies.set i _))
        rw [List.length_set, hv, bodCells_sets _ _ _ _ _ h.rows.ld]; exact this
      ld := by show L.dat.length = (S.bodies.set i _).length; rw [List.length_set, h.rows.ld]
      data := fun j hj => by
        have hj' : j < S.bodies.length := by have e : (S.setBody i ⟨(S.body i).data, n⟩).bodies.length = S.bodies.length := List.length_set ..; rw [e] at hj; exact hj
        have e2 : ((S.setBody i ⟨(S.body i).data, n⟩).body j).data = (S.body j).data := by
          by_cases e : j = i
          · subst e; rw [body_set_same S hi]
          · rw [body_set_other S e]
        unfold Drv.len
        rw [e2]
        exact car (h.rows.data j hj') (by decide)
      now := car h.rows.now (by decide)
      kept := car h.rows.kept (by decide)
      chs := car h.rows.chs (by decide)
      lc := h.rows.lc
      chg := fun j hj => car (h.rows.chg j hj) (by decide) }
end

end Go.Proofs.YtdmcjomcbhdcbaaGreat
namespace Go.Proofs.YtdmcjomcbhdcbaaGreat
open Go.RowKit Go.Maps

end Go.Proofs.YtdmcjomcbhdcbaaGreat
