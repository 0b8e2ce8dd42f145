/- strings.Lines: the walk of the library's iterator. -/
import Derived.Test.YtcojgmgoiopboaaGreatDoorLinesP
import Derived.Test.YtcojgmgoiopboaaGreatDoorRangeF
import Derived.Test.YtcojgmgoiopboaaGreatDoorShRd
import Derived.RangeFuncBound
import Derived.OwnWalkIn
import Derived.TacticsInMore
import Derived.LoopNIn
import Derived.LoopIn
import Derived.Shelf.RegionOpen
import Derived.WalkKit
namespace Go.Proofs.YtcojgmgoiopboaaGreatDoor
open Go.ChangeShapes Go.WideShapes Go.ChangeAt Go.RowKit
set_option linter.unusedVariables false
set_option linter.unusedSimpArgs false
attribute [local go_sem] Oper.semAt_some

/-- How many bytes are left to come. -/
def leftOf (c : Nat) (W : World) : Nat := match W.cell? ⟨c, 0, none⟩ with | some (.string s) => s.size | _ => 0
theorem leftOf_eq {c : Nat} {l : List UInt8} {W : World} (h : LeftAt c (.string ⟨l.toArray⟩) W) : leftOf c W = l.length := by
  unfold leftOf; rw [h.1]; simp [ByteArray.size]
def argL (l : List UInt8) (k : Nat) : Value := .string ⟨((linesL l).getD k []).toArray⟩
def leftV (l : List UInt8) (k : Nat) : Value := .string ⟨(leftL l k).toArray⟩
theorem linesL_bounds {a b m : List UInt8} {n : Nat} (h : m = a ++ b) (hl : m.length ≤ n) : a.length ≤ n ∧ b.length ≤ n := by
  rw [h] at hl; simp at hl; omega
set_option maxRecDepth 100000 in
set_option maxHeartbeats 4000000 in
theorem lines_it (l : List UInt8) (hl : l.length ≤ 1048576) (n c : Nat) (hn : 1 ≤ n) : ItOk Fence.wide n Tryz.prog 62 #[.pointer (some ⟨c, 0, none⟩)] c (linesL l).length (argL l) (leftV l) := by
  intro L J Jx W hJs hY hJ0 hl0
  refine callsIn_of_wp Tryz.func62 rfl trivial ?_ rfl
  simp only [Tryz.ntmps62, List.size_toArray, List.length_cons, List.length_nil, Nat.reduceAdd, Nat.reduceSub, Array.replicate_succ, Array.replicate_zero, List.push_toArray, List.append_toArray, List.nil_append, List.cons_append]
  have HY := Lib.hid hY
  have HS := Lib.hid hJs
  clear hY hJs
  gi_wp2
  gi_loopw [3] (fun _ wr => ∃ k, k ≤ (linesL l).length ∧ J k wr ∧ LeftAt c (leftV l k) wr) (fun _ wr => leftOf c wr)
  case atStart => exact ⟨0, by omega, hJ0, hl0⟩
  case round =>
    obtain ⟨k, hk, hJ, hL⟩ := hrel
    have hsz := leftOf_eq hL
    have hlen := leftL_len l k
    obtain ⟨c0, f0⟩ := hL
    unfold leftV at c0
    by_cases hlt : k < (linesL l).length
    · obtain ⟨hst, hcase⟩ := leftL_step hlt
      have hlb := linesL_bounds hst hlen
      rcases hcase with ⟨p, hp, hnp⟩ | ⟨hnp, hne, hre⟩
      · have hrest := leftL_len l (k + 1)
        have hS : (⟨(leftL l k).toArray⟩ : ByteArray).size = p.length + 1 + (leftL l (k + 1)).length := by
          rw [hst, hp]; simp [ByteArray.size]; omega
        have hix := fun w' => sh_strings_IndexByte ⟨(leftL l k).toArray⟩ 10 w'
        have e10 : (10 : Int).toNat.toUInt8 = 10 := rfl
        have ed : (⟨(leftL l k).toArray⟩ : ByteArray).data.toList = p ++ 10 :: leftL l (k + 1) := by
          show (leftL l k).toArray.toList = _
          rw [hst, hp]; simp
        rw [ed, e10, indexByte_hit p _ 10 hnp] at hix
        have hx1 : (⟨(leftL l k).toArray⟩ : ByteArray).extract 0 (p.length + 1) = ⟨(p ++ [10]).toArray⟩ := by
          rw [extract_eq, ed]; simp [List.take_append, List.take_of_length_le]
        have hx2 : (⟨(leftL l k).toArray⟩ : ByteArray).extract (p.length + 1) (p.length + 1 + (leftL l (k + 1)).length) = ⟨(leftL l (k + 1)).toArray⟩ := by
          rw [extract_eq, ed]; simp [List.drop_append, List.take_append]
        have hpl : p.length ≤ 1048576 := by rw [hst, hp] at hlen; simp at hlen; omega
        have hgt : leftOf c wr = p.length + 1 + (leftL l (k + 1)).length := by rw [hsz, hst, hp]; simp; omega
        clear ed hlen hsz hst
        generalize (⟨(leftL l k).toArray⟩ : ByteArray) = S at *
        have hS0 : (0 : Int) < S.size := by omega
        gi_wp2_with (refine ⟨trivial, ?_⟩; gi_at_call 63; refine (callsIn_wide.2 (hix _)).mono ?_; rintro e w' ⟨rfl, hw⟩; rw [hw]; clear hw w')
        have hmx : Tryz.prog.follows .mixedOrders = true := by kernel_rfl
        gi_region_o
        have ha : argL l k = .string ⟨(p ++ [10]).toArray⟩ := by
          unfold argL; rw [List.getD_eq_getElem?_getD, List.getElem?_eq_getElem hlt]; simp [hp]
        have hstep : ItStep c wr (wr.setCell ⟨c, 0, none⟩ (.string ⟨(leftL l (k + 1)).toArray⟩)).drew := ⟨1, .inr ⟨_, rfl⟩⟩
        have hleft : LeftAt c (leftV l (k + 1)) (wr.setCell ⟨c, 0, none⟩ (.string ⟨(leftL l (k + 1)).toArray⟩)).drew := ⟨World.cell?_setCell_same' _ _ _ (by rw [c0]; rfl), by show (wr.setCell _ _).frozen? _ = false; rw [World.frozen?_setCell]; exact f0⟩
        obtain ⟨fn, tmps, assign, body, hy, hR⟩ := HY.out k _ hlt (HS.out k _ _ hJ hstep) hleft
        rw [ha] at hy
        clear hleft hstep ha
        generalize (wr.setCell ⟨c, 0, none⟩ (.string ⟨(leftL l (k + 1)).toArray⟩)).drew = W1 at *
        gi_wp2
        refine hR.mono ?_
        rintro e W' (⟨rfl, hJ', hL'⟩ | ⟨rfl, hx⟩)
        · gi_wp2
          go_roundw
          case rel => exact ⟨k + 1, by omega, hJ', hL'⟩
          case measure => rw [leftOf_eq hL']; rw [hgt]; omega
        · gi_wp2
          refine bodyPost_ret (results_none rfl _ _ _) rfl ?_
          exact ⟨⟨_, rfl⟩, .inr hx⟩
      · have hS : (⟨(leftL l k).toArray⟩ : ByteArray).size = (leftL l k).length := by simp [ByteArray.size]
        have hix := fun w' => sh_strings_IndexByte ⟨(leftL l k).toArray⟩ 10 w'
        have e10 : (10 : Int).toNat.toUInt8 = 10 := rfl
        have ed : (⟨(leftL l k).toArray⟩ : ByteArray).data.toList = leftL l k := by simp
        have hk0 : leftL l k = (linesL l)[k] := by rw [hst, hre]; simp
        rw [ed, e10, hk0, indexByte_miss _ 10 hnp] at hix
        have hpos : 0 < ((linesL l)[k]).length := List.length_pos_iff.2 hne
        rw [hk0] at hS hsz c0
        clear ed hlen hst hk0
        have hxx : linesL l ≠ [] := fun q => by rw [q] at hlt; simp at hlt
        generalize hG : (linesL l)[k] = G at *
        generalize hSe : (⟨G.toArray⟩ : ByteArray) = S at *
        have hS0 : (0 : Int) < S.size := by omega
        have ha : argL l k = .string S := by
          unfold argL; rw [List.getD_eq_getElem?_getD, List.getElem?_eq_getElem hlt, hG, ← hSe]; rfl
        have hr0 : leftV l (k + 1) = .string ⟨#[]⟩ := by unfold leftV; rw [hre]
        have hstep : ItStep c wr (wr.setCell ⟨c, 0, none⟩ (.string ⟨#[]⟩)) := ⟨0, .inr ⟨_, (World.drewN_zero _).symm⟩⟩
        have hleft : LeftAt c (leftV l (k + 1)) (wr.setCell ⟨c, 0, none⟩ (.string ⟨#[]⟩)) := by
          rw [hr0]
          exact ⟨World.cell?_setCell_same' _ _ _ (by rw [c0]; rfl), by rw [World.frozen?_setCell]; exact f0⟩
        obtain ⟨fn, tmps, assign, body, hy, hR⟩ := HY.out k _ hlt (HS.out k _ _ hJ hstep) hleft
        rw [ha] at hy
        have hsz2 : 0 < leftOf c wr := by rw [hsz]; exact hpos
        clear hleft hstep ha hSe hG hsz
        gi_wp2_with (refine ⟨trivial, ?_⟩; gi_at_call 63; refine (callsIn_wide.2 (hix _)).mono ?_; rintro e w' ⟨rfl, hw⟩; rw [hw]; clear hw w')
        refine hR.mono ?_
        rintro e W' (⟨rfl, hJ', hL'⟩ | ⟨rfl, hx⟩)
        · have hz : leftOf c W' = 0 := by rw [leftOf_eq hL', hre]; rfl
          gi_wp2
          go_roundw
          case rel => exact ⟨k + 1, by omega, hJ', hL'⟩
          case measure => rw [hz]; exact hsz2
        · gi_wp2
          refine bodyPost_ret (results_none rfl _ _ _) rfl ?_
          exact ⟨⟨_, rfl⟩, .inr hx⟩
    · obtain rfl : k = (linesL l).length := by omega
      rw [leftL_end] at c0
      gi_wp2
      go_end0
      exact ⟨⟨_, rfl⟩, .inl hJ⟩
end Go.Proofs.YtcojgmgoiopboaaGreatDoor
