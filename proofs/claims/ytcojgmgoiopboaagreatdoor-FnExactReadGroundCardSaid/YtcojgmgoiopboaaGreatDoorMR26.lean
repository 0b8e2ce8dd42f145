import Derived.Test.YtcojgmgoiopboaaGreatDoorMR23
/- ReadGround, in the program: its cut of the text (the walk itself is still to do). -/
namespace Go.Proofs.YtcojgmgoiopboaaGreatDoor
open Go.ChangeShapes Go.WideShapes Go.ChangeAt Go.RowKit
set_option linter.unusedVariables false
set_option linter.unusedSimpArgs false
attribute [local irreducible] Calls

theorem count_split (c : UInt8) : ∀ (n : Nat) (l : List UInt8), l.length ≤ n → Lib.count l [c] + 1 = (splitL c l).length
  | n, l, h => by
    rcases index_split c l with ⟨i, h1, h2, h3⟩ | ⟨h1, h2⟩
    · cases n with
      | zero => omega
      | succ n =>
        have ih := count_split c n (l.drop (i + 1)) (by simp; omega)
        rw [h3, List.length_cons, ← ih, Lib.count_hit (i := i) (by simp) h1]
        simp; omega
    · rw [h2, Lib.count_miss h1]; rfl
/-- The program's cut of a text at its ends of lines. -/
theorem splitAll_any (s : ByteArray) (hs : s.size ≤ 1048576) (w : World) (m : Int) (hm : w.cell? ⟨1, 0, none⟩ = some (.int .i64 m)) :
    Calls Tryz.prog 27 #[.string s, .string ⟨#[10]⟩] w fun e w' => ∃ v g, e = .returned v ∧ Own w' g 9 1 v (splitL 10 s.data.toList).length (strs (splitL 10 s.data.toList)) ∧ w.heap.size ≤ g ∧ Below w.heap.size w w' := by
  have hsz := splitL_length 10 s.data.toList
  have hl : s.data.toList.length = s.size := rfl
  refine (sh_strings_Split s ⟨#[10]⟩ m w (by omega) hm (by decide)).mono ?_
  rintro e w' ⟨rfl, rfl⟩
  have hb := Lib.splitB_data ⟨#[10]⟩ 0 (Lib.countB s ⟨#[10]⟩) s
  have hc : Lib.countB s ⟨#[10]⟩ = Lib.count s.data.toList [10] := rfl
  have hn := count_split 10 _ s.data.toList (Nat.le_refl _)
  rw [hc] at hb ⊢
  rw [show (⟨#[10]⟩ : ByteArray).data.toList = [10] from rfl, (splitK_len 10 (Lib.count s.data.toList [10]) s.data.toList).2 (by omega)] at hb
  have hv : (Lib.splitB ⟨#[10]⟩ 0 (Lib.count s.data.toList [10]) s).map Value.string = strs (splitL 10 s.data.toList) := by rw [← hb]; simp [strs]
  rw [hn]
  refine ⟨_, _, rfl, own_blk (n := (splitL 10 s.data.toList).length) (Blk.new _ _ _) ?_ ?_ ?_, Nat.le_refl _, below1 _ _⟩
  · rw [hv]; simp [strs_length]
  · unfold maxLen; omega
  · simpa using hv
end Go.Proofs.YtcojgmgoiopboaaGreatDoor
