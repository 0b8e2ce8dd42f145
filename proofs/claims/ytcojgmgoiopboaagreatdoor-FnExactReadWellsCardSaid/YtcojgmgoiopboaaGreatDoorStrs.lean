/- Texts that are put together, and the library's builder of texts between two writes: plain laws; no statement is proved here. -/
import Derived.Test.YtcojgmgoiopboaaGreatDoorLoose
import Derived.Lib.Builder
import Derived.Laws.Concat
namespace Go.Proofs.YtcojgmgoiopboaaGreatDoor
open Go.ChangeShapes Go.WideShapes Go.ChangeAt Go.RowKit
set_option linter.unusedVariables false

theorem run_addS {P : Program} (t : TypeId) (A B : List UInt8) (h : A.length + B.length ≤ 9223372036854775807) (w : World) : (binOp .add t (.string ⟨A.toArray⟩) (.string ⟨B.toArray⟩)).run P w = .ok (.string ⟨(A ++ B).toArray⟩) w := by
  rw [binOp_string_add, run_string_add_sum w _ _ (by simpa [ByteArray.size] using h), ByteArray.mk_append_mk]
theorem runV_addS {P : Program} (t : TypeId) (A B : List UInt8) (h : A.length + B.length ≤ 9223372036854775807) (w : World) : ((binOp .add t (.string ⟨A.toArray⟩) (.string ⟨B.toArray⟩)).run P w).andThen (fun a w' => Result.ok (Next.value a) w') = .ok (.value (.string ⟨(A ++ B).toArray⟩)) w := by
  rw [run_addS t A B h w]; rfl
theorem exec_addS {P : Program} {ev : Operand → Value} {o : Oper} {t t' : TypeId} {x y : Operand} {A B : List UInt8} (ho : o.op = .binOp .add t x y t') (hx : ev x = .string ⟨A.toArray⟩) (hy : ev y = .string ⟨B.toArray⟩) (h : A.length + B.length ≤ 9223372036854775807) (w : World) : (execOp ev o).run P w = .ok (.value (.string ⟨(A ++ B).toArray⟩)) w := by
  unfold execOp
  have he : (eqGuard .add t x y (.string ⟨A.toArray⟩) (.string ⟨B.toArray⟩)).run P w = .ok () w := rfl
  simp only [ho, hx, hy, Sem.run_bind, he, run_addS t A B h w, Result.andThen_ok, Sem.run_pure]
theorem ownsRow_below {w w' : World} {B : Nat} {e : TypeId} {s : Nat} {v : Value} {n : Nat} {xs : List Value} (h : w.ownsRow B e s v n xs) (hb : Below w.heap.size w w') : w'.ownsRow B e s v n xs := by
  obtain ⟨h1, h2 | ⟨g, cap, cur, h3, h4, h5, h6⟩⟩ := h
  · exact ⟨h1, .inl h2⟩
  · exact ⟨h1, .inr ⟨g, cap, cur, h3, h4, (hb.block g (lt_of_block h5)).trans h5, h6⟩⟩
theorem builderAt_below {T e : TypeId} {B b : Nat} {p : Value} {bs : List Value} {w w' : World} (h : Lib.BuilderAt T e B b p bs w) (hb : Below w.heap.size w w') : Lib.BuilderAt T e B b p bs w' := by
  obtain ⟨h1, v, h2, h3, h4⟩ := h
  exact ⟨h1, v, (hb.block b (lt_of_block h2)).trans h2, ownsRow_below h3 hb, h4⟩
theorem isBuilder_below {T e : TypeId} {B b : Nat} {bs : List Value} {w w' : World} (h : Lib.IsBuilder T e B b bs w) (hb : Below w.heap.size w w') : Lib.IsBuilder T e B b bs w' :=
  h.imp (fun h => builderAt_below h hb) (fun h => builderAt_below h hb)
theorem isBuilder_lt {T e : TypeId} {B b : Nat} {bs : List Value} {w : World} (h : Lib.IsBuilder T e B b bs w) : b < w.heap.size := by
  rcases h with h | h <;> exact h.lt
theorem strCells_eq (l : List UInt8) : Lib.strCells ⟨l.toArray⟩ = Lib.byteCells l := by simp [Lib.strCells, Lib.byteCells]
theorem byteCells_app (l m : List UInt8) : Lib.byteCells l ++ Lib.byteCells m = Lib.byteCells (l ++ m) := by simp [Lib.byteCells]
theorem byteCells_len (l : List UInt8) : (Lib.byteCells l).length = l.length := by simp [Lib.byteCells]
end Go.Proofs.YtcojgmgoiopboaaGreatDoor
