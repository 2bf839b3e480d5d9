/- Values of several cells inside a region that draws its order and only reads. -/
import Derived.Test.YtdiaihpilniikaaGreatM26
import Derived.Deep.QuietTactic
import Derived.BigQuiet
namespace Go.Proofs.YtdiaihpilniikaaGreat
open Go.RowKit Go.Maps

section
variable {P : Program} {ops : Array Oper} {C : World → Prop} {Q : Act → Prop} {rest : List Oper} {o : Oper} {a : Act}
theorem wpQuiet_load (ty : TypeId) (x : Operand) (ho : o.op = .load ty x) (hgd : Region.wanted o (yielded ops a.tmps) = true) (ad : Addr) (hx : a.eval x = .pointer (some ad)) (v : Value) (hrun : ∀ w, C w → (loadVar ty ad).run P w = .ok v w) (h : ∀ K : Act → Prop, (∀ a, wpQuiet P ops C Q rest a → K a) → K (a.put o.dst v)) : wpQuiet P ops C Q (o :: rest) a :=
  wpQuiet_step fun K hK => by
    rw [if_pos hgd]
    refine ⟨v, fun w hw => ?_, h K hK⟩
    unfold Oper.quietAt execOp
    simp only [ho, hx, Instr.loadAt, Instr.sureAddr, Sem.run_bind, Sem.run_pure, Result.andThen_ok, hrun w hw]
    exact ⟨rfl, rfl⟩
theorem wpQuiet_binOp (op : BinOp) (ty ty2 : TypeId) (x y : Operand) (ho : o.op = .binOp op ty x y ty2) (hgd : Region.wanted o (yielded ops a.tmps) = true) (vx vy : Value) (hx : a.eval x = vx) (hy : a.eval y = vy) (v : Value) (hgr : ∀ w, C w → (eqGuard op ty x y vx vy).run P w = .ok () w) (hrun : ∀ w, C w → (binOp op ty vx vy).run P w = .ok v w) (h : ∀ K : Act → Prop, (∀ a, wpQuiet P ops C Q rest a → K a) → K (a.put o.dst v)) : wpQuiet P ops C Q (o :: rest) a :=
  wpQuiet_step fun K hK => by
    rw [if_pos hgd]
    refine ⟨v, fun w hw => ?_, h K hK⟩
    unfold Oper.quietAt execOp
    simp only [ho, hx, hy, Sem.run_bind, Sem.run_pure, Result.andThen_ok, hgr w hw, hrun w hw]
    exact ⟨rfl, rfl⟩
end
end Go.Proofs.YtdiaihpilniikaaGreat
