/- A slice literal whose elements are values of several cells, told by its run. -/
import Derived.Test.YtdiaihpilniikaaGreatM26
namespace Go.Proofs.YtdiaihpilniikaaGreat
open Go.RowKit Go.Maps

section
variable {P : Program} {w : World}
theorem wpList_build_if {ops : Array Oper} {rest : List Oper} {o : Oper} {a : Act} {Q : Exit → Act → World → Prop} (t : TypeId) (len : Nat) (parts : Array (Nat × Operand)) (ho : o.op = .buildSlice t len parts) (hgd : Region.wanted o (yielded ops a.tmps) = true)
    (vs : Array (Nat × Value)) (hx : parts.map (fun (i, x) => (i, a.eval x)) = vs) (v : Value) (w' : World) (hrun : (Instr.buildSlice t len vs).run P w = .ok v w') (h : wpList P ops Q rest (a.put o.dst v) w') : wpList P ops Q (o :: rest) a w :=
  wpList_step fun _ hK => by
    rw [if_pos hgd]
    unfold Oper.wp execOp
    simp only [ho, hx, Sem.run_bind, Sem.run_pure, Result.andThen_ok, hrun]
    exact hK _ _ h
end
end Go.Proofs.YtdiaihpilniikaaGreat
