import Derived.Test.YtglimhkpndfjgaaGreatDoorMW13
import Derived.RangeFuncBound
import Derived.OwnWalkIn
import Derived.TacticsInMore
import Derived.LoopNIn
import Derived.LoopIn
import Derived.Shelf.RegionOpen
import Derived.WalkKit
import Derived.Test.YtglimhkpndfjgaaGreatDoorMW01
import Derived.Lib.Split
/- strings.Lines: the walk of the library's iterator. -/
namespace Go.Proofs.YtglimhkpndfjgaaGreatDoor
open Go.ChangeShapes Go.WideShapes Go.ChangeAt Go.RowKit
set_option linter.unusedVariables false
set_option linter.unusedSimpArgs false
attribute [local go_sem] Oper.semAt_some

/-- How many bytes are left to come. -/
def leftOf (c : Nat) (W : World) : Nat := match W.cell? ⟨c, 0, none⟩ with | some (.string s) => s.size | _ => 0
theorem leftOf_eq {c : Nat} {l : List UInt8} {W : World} (h : LeftAt c (.string ⟨l.toArray⟩) W) : leftOf c W = l.length := by
  unfold leftOf; rw [h.1]; simp [ByteArray.size]
def argL (l : List UInt8) (k : Nat) : Value := .string ⟨((linesL l).getD k []).toArray⟩
def leftV (l : List UInt8) (k : Nat) : Value := .string ⟨(leftL l k).toArray⟩
theorem linesL_bounds {a b m : List UInt8} {n : Nat} (h : m = a ++ b) (hl : m.length ≤ n) : a.length ≤ n ∧ b.length ≤ n := by
  rw [h] at hl; simp at hl; omega
set_option maxRecDepth 100000 in
set_option maxHeartbeats 4000000 in
theorem lines_it (l : List UInt8) (hl : l.length ≤ 1048576) (n c : Nat) (hn : 1 ≤ n) : ItOk Fence.wide n Tryz.prog 145 #[.pointer (some ⟨c, 0, none⟩)] c (linesL l).length (argL l) (leftV l) := by
  intro L J Jx W hJs hY hJ0 hl0
  refine callsIn_of_wp Tryz.func145 rfl trivial ?_ rfl
  simp only [Tryz.ntmps145, List.size_toArray, List.length_cons, List.length_nil, Nat.reduceAdd, Nat.reduceSub, Array.replicate_succ, Array.replicate_zero, List.push_toArray, List.append_toArray, List.nil_append, List.cons_append]
  have HY := Lib.hid hY
  have HS := Lib.hid hJs
  clear hY hJs
  gi_wp2
  gi_loopw [3] (fun _ wr => ∃ k, k ≤ (linesL l).length ∧ J k wr ∧ LeftAt c (leftV l k) wr) (fun _ wr => leftOf c wr)
  case atStart => exact ⟨0, by omega, hJ0, hl0⟩
  case round =>
    obtain ⟨k, hk, hJ, hL⟩ := hrel
    have hsz := leftOf_eq hL
    have hlen := leftL_len l k
    obtain ⟨c0, f0⟩ := hL
    unfold leftV at c0
    by_cases hlt : k < (linesL l).length
    · obtain ⟨hst, hcase⟩ := leftL_step hlt
      have hlb := linesL_bounds hst hlen
      rcases hcase with ⟨p, hp, hnp⟩ | ⟨hnp, hne, hre⟩
      · have hrest := leftL_len l (k + 1)
        have hS : (⟨(leftL l k).toArray⟩ : ByteArray).size = p.length + 1 + (leftL l (k + 1)).length := by
          rw [hst, hp]; simp [ByteArray.size]; omega
        have hix := fun w' => sh_strings_IndexByte ⟨(leftL l k).toArray⟩ 10 w'
        have e10 : (10 : Int).toNat.toUInt8 = 10 := rfl
        have ed : (⟨(leftL l k).toArray⟩ : ByteArray).data.toList = p ++ 10 :: leftL l (k + 1) := by
          show (leftL l k).toArray.toList = _
          rw [hst, hp]; simp
        rw [ed, e10, indexByte_hit p _ 10 hnp] at hix
        have hx1 : (⟨(leftL l k).toArray⟩ : ByteArray).extract 0 (p.length + 1) = ⟨(p ++ [10]).toArray⟩ := by
          rw [extract_eq, ed]; simp [List.take_append, List.take_of_length_le]
        have hx2 : (⟨(leftL l k).toArray⟩ : ByteArray).extract (p.length + 1) (p.length + 1 + (leftL l (k + 1)).length) = ⟨(leftL l (k + 1)).toArray⟩ := by
          rw [extract_eq, ed]; simp [List.drop_append, List.take_append]
        have hpl : p.length ≤ 1048576 := by rw [hst, hp] at hlen; simp at hlen; omega
        have hgt : leftOf c wr = p.length + 1 + (leftL l (k + 1)).length := by rw [hsz, hst, hp]; simp; omega
        clear ed hlen hsz hst
        generalize (⟨(leftL l k).toArray⟩ : ByteArray) = S at *
        have hS0 : (0 : Int) < S.size := by omega
        gi_wp2_with (refine ⟨trivial, ?_⟩; gi_at_call 146; refine (callsIn_wide.2 (hix _)).mono ?_; rintro e w' ⟨rfl, hw⟩; rw [hw]; clear hw w')
        have hmx : Tryz.prog.follows .mixedOrders = true := by kernel_rfl
        gi_region_o
        have ha : argL l k = .string ⟨(p ++ [10]).toArray⟩ := by
          unfold argL; rw [List.getD_eq_getElem?_getD, List.getElem?_eq_getElem hlt]; simp [hp]
        have hstep : ItStep c wr (wr.setCell ⟨c, 0, none⟩ (.string ⟨(leftL l (k + 1)).toArray⟩)).drew := ⟨1, .inr ⟨_, rfl⟩⟩
        have hleft : LeftAt c (leftV l (k + 1)) (wr.setCell ⟨c, 0, none⟩ (.string ⟨(leftL l (k + 1)).toArray⟩)).drew := ⟨World.cell?_setCell_same' _ _ _ (by rw [c0]; rfl), by show (wr.setCell _ _).frozen? _ = false; rw [World.frozen?_setCell]; exact f0⟩
        obtain ⟨fn, tmps, assign, body, hy, hR⟩ := HY.out k _ hlt (HS.out k _ _ hJ hstep) hleft
        rw [ha] at hy
        clear hleft hstep ha
        generalize (wr.setCell ⟨c, 0, none⟩ (.string ⟨(leftL l (k + 1)).toArray⟩)).drew = W1 at *
        gi_wp2
        refine hR.mono ?_
        rintro e W' (⟨rfl, hJ', hL'⟩ | ⟨rfl, hx⟩)
        · gi_wp2
          go_roundw
          case rel => exact ⟨k + 1, by omega, hJ', hL'⟩
          case measure => rw [leftOf_eq hL']; rw [hgt]; omega
        · gi_wp2
          refine bodyPost_ret (results_none rfl _ _ _) rfl ?_
          exact ⟨⟨_, rfl⟩, .inr hx⟩
      · have hS : (⟨(leftL l k).toArray⟩ : ByteArray).size = (leftL l k).length := by simp [ByteArray.size]
        have hix := fun w' => sh_strings_IndexByte ⟨(leftL l k).toArray⟩ 10 w'
        have e10 : (10 : Int).toNat.toUInt8 = 10 := rfl
        have ed : (⟨(leftL l k).toArray⟩ : ByteArray).data.toList = leftL l k := by simp
        have hk0 : leftL l k = (linesL l)[k] := by rw [hst, hre]; simp
        rw [ed, e10, hk0, indexByte_miss _ 10 hnp] at hix
        have hpos : 0 < ((linesL l)[k]).length := List.length_pos_iff.2 hne
        rw [hk0] at hS hsz c0
        clear ed hlen hst hk0
        have hxx : linesL l ≠ [] := fun q => by rw [q] at hlt; simp at hlt
        generalize hG : (linesL l)[k] = G at *
        generalize hSe : (⟨G.toArray⟩ : ByteArray) = S at *
        have hS0 : (0 : Int) < S.size := by omega
        have ha : argL l k = .string S := by
          unfold argL; rw [List.getD_eq_getElem?_getD, List.getElem?_eq_getElem hlt, hG, ← hSe]; rfl
        have hr0 : leftV l (k + 1) = .string ⟨#[]⟩ := by unfold leftV; rw [hre]
        have hstep : ItStep c wr (wr.setCell ⟨c, 0, none⟩ (.string ⟨#[]⟩)) := ⟨0, .inr ⟨_, (World.drewN_zero _).symm⟩⟩
        have hleft : LeftAt c (leftV l (k + 1)) (wr.setCell ⟨c, 0, none⟩ (.string ⟨#[]⟩)) := by
          rw [hr0]
          exact ⟨World.cell?_setCell_same' _ _ _ (by rw [c0]; rfl), by rw [World.frozen?_setCell]; exact f0⟩
        obtain ⟨fn, tmps, assign, body, hy, hR⟩ := HY.out k _ hlt (HS.out k _ _ hJ hstep) hleft
        rw [ha] at hy
        have hsz2 : 0 < leftOf c wr := by rw [hsz]; exact hpos
        clear hleft hstep ha hSe hG hsz
        gi_wp2_with (refine ⟨trivial, ?_⟩; gi_at_call 146; refine (callsIn_wide.2 (hix _)).mono ?_; rintro e w' ⟨rfl, hw⟩; rw [hw]; clear hw w')
        refine hR.mono ?_
        rintro e W' (⟨rfl, hJ', hL'⟩ | ⟨rfl, hx⟩)
        · have hz : leftOf c W' = 0 := by rw [leftOf_eq hL', hre]; rfl
          gi_wp2
          go_roundw
          case rel => exact ⟨k + 1, by omega, hJ', hL'⟩
          case measure => rw [hz]; exact hsz2
        · gi_wp2
          refine bodyPost_ret (results_none rfl _ _ _) rfl ?_
          exact ⟨⟨_, rfl⟩, .inr hx⟩
    · obtain rfl : k = (linesL l).length := by omega
      rw [leftL_end] at c0
      gi_wp2
      go_end0
      exact ⟨⟨_, rfl⟩, .inl hJ⟩
end Go.Proofs.YtglimhkpndfjgaaGreatDoor
/- lineWords: the words of all lines of a text: the walk. -/
namespace Go.Proofs.YtglimhkpndfjgaaGreatDoor
open Go.ChangeShapes Go.WideShapes Go.ChangeAt Go.RowKit
set_option linter.unusedVariables false
set_option linter.unusedSimpArgs false
attribute [local go_sem] Oper.semAt_some

theorem linesOf_any (s : ByteArray) (w : World) :
    Calls Tryz.prog 113 #[.string s] w fun e w' => e = .returned (.func (.func 145) #[] #[.pointer (some ⟨w.heap.size, 0, none⟩)]) ∧ w' = w.alloc (.cells #[.string s] 9) := by
  go_enter Tryz.func113, Tryz.ntmps113
  go_wp2
  go_ret
  exact ⟨rfl, rfl⟩
theorem elStrs : ElemTy Tryz.prog 90 93 1 24 := elem_of (z := .slice none 0 0) Tryz.underlying90 (by kernel_rfl) rfl
/-- A line's words. -/
def lineWs (l : List UInt8) : List (List UInt8) := splitL 32 (Lib.trimSuffix l [10])
/-- Has each line so many words, and are there no more lines than so many? -/
def goodTo (l : List UInt8) (many most k : Nat) : Prop := k ≤ most ∧ ∀ j, j < k → (lineWs ((linesL l).getD j [])).length = many
theorem goodTo_next {l : List UInt8} {many most k : Nat} (h : goodTo l many most k) (h1 : (lineWs ((linesL l).getD k [])).length = many) (h2 : k ≠ most) : goodTo l many most (k + 1) := by
  obtain ⟨a, b⟩ := h
  refine ⟨by omega, fun j hj => ?_⟩
  by_cases e : j = k
  · subst e; exact h1
  · exact b j (by omega)
theorem goodTo_not {l : List UInt8} {many most k N : Nat} (hk : k < N) (h : (lineWs ((linesL l).getD k [])).length ≠ many ∨ k = most) : ¬ goodTo l many most N := fun ⟨a, b⟩ => by
  rcases h with h | h
  · exact h (b k hk)
  · omega
theorem splitK_len (c : UInt8) : ∀ (k : Nat) (l : List UInt8), (Lib.splitK [c] 0 k l).length = min (splitL c l).length (k + 1) ∧ ((splitL c l).length ≤ k + 1 → Lib.splitK [c] 0 k l = splitL c l)
  | 0, l => by
    have hp := List.length_pos_iff.2 (splitL_ne c l)
    refine ⟨by simp [Lib.splitK]; omega, fun h => ?_⟩
    rcases index_split c l with ⟨i, h1, h2, h3⟩ | ⟨h1, h2⟩
    · have := List.length_pos_iff.2 (splitL_ne c (l.drop (i + 1)))
      rw [h3] at h; simp at h
      exact absurd h (splitL_ne c _)
    · rw [h2]; rfl
  | k + 1, l => by
    rcases index_split c l with ⟨i, h1, h2, h3⟩ | ⟨h1, h2⟩
    · have ih := splitK_len c k (l.drop (i + 1))
      have e : Lib.splitK [c] 0 (k + 1) l = l.take i :: Lib.splitK [c] 0 k (l.drop (i + 1)) := by
        rw [Lib.splitK, if_neg (by rw [h1]; simp), h1]
        simp
      rw [e, h3]
      refine ⟨by simp only [List.length_cons, ih.1]; omega, fun h => ?_⟩
      rw [ih.2 (by simp at h; omega)]
    · rw [Lib.splitK, if_pos (by rw [h1]; rfl), h2]
      simp
theorem splitB_len (S : ByteArray) (k : Nat) : (Lib.splitB ⟨#[32]⟩ 0 k S).length = min (splitL 32 S.data.toList).length (k + 1) := by
  have h := Lib.splitB_data ⟨#[32]⟩ 0 k S
  have h2 := (splitK_len 32 k S.data.toList).1
  rw [show (⟨#[32]⟩ : ByteArray).data.toList = [32] from rfl] at h
  rw [← h2, ← h]; simp
theorem splitB_eq (S : ByteArray) (k : Nat) (h : (splitL 32 S.data.toList).length ≤ k + 1) : (Lib.splitB ⟨#[32]⟩ 0 k S).map Value.string = strs (splitL 32 S.data.toList) := by
  have h1 := Lib.splitB_data ⟨#[32]⟩ 0 k S
  rw [show (⟨#[32]⟩ : ByteArray).data.toList = [32] from rfl, (splitK_len 32 k S.data.toList).2 h] at h1
  rw [← h1]; simp [strs]
theorem Own.keepB {w w' : World} {g : Nat} {e : TypeId} {s : Nat} {v : Value} {n : Nat} {xs : List Value} (h : Own w g e s v n xs) (hk : ∀ C t, Blk w g C t → Blk w' g C t) : Own w' g e s v n xs := by
  obtain ⟨h1, cap, cur, h2, hb, h3⟩ := h
  exact ⟨h1, cap, cur, h2, hk _ _ hb, h3⟩
theorem blk_put {W : World} {l : Nat} {o o' : Obj} (h : W.heap[l]? = some o') (hc : o'.isCells = false) {b : Nat} {C : Array Value} {t : TypeId} (hb : Blk W b C t) : Blk (W.putObj l o) b C t := by
  have hn : b ≠ l := fun e => by
    subst e
    rw [hb] at h
    injection h with h
    subst h
    cases hc
  exact (World.putObj_heap_other hn).trans hb
/-- The words of the first k lines, as the program keeps them. -/
def LineI (w0 : World) (B : Nat) (l : List UInt8) (many most k : Nat) (W : World) : Prop :=
  ∃ v g vs, Blk W B #[.int .i64 many] 3 ∧ Blk W (B + 1) #[.int .i64 most] 3 ∧ Blk W (B + 2) #[.slice none 0 0] 90 ∧ Blk W (B + 3) #[.bool false] 4 ∧ Blk W (B + 5) #[v] 90 ∧
    Own W g 93 1 v k vs ∧ (g = B + 4 ∨ B + 7 ≤ g) ∧ (∀ j, j < k → ∃ b u, vs[j]? = some u ∧ B + 7 ≤ b ∧ b ≠ g ∧ Own W b 9 1 u (lineWs ((linesL l).getD j [])).length (strs (lineWs ((linesL l).getD j [])))) ∧ goodTo l many most k ∧ Below B w0 W
theorem LineI.move {w0 : World} {B : Nat} {l : List UInt8} {many most k : Nat} {W W' : World} (h : LineI w0 B l many most k W) (hk : ∀ b C t, b ≠ B + 6 → Blk W b C t → Blk W' b C t) (hb : Below B W W') : LineI w0 B l many most k W' := by
  obtain ⟨v, g, vs, h1, h2, h3, h4, h5, h6, h7, h8, h9, h10⟩ := h
  refine ⟨v, g, vs, hk _ _ _ (by omega) h1, hk _ _ _ (by omega) h2, hk _ _ _ (by omega) h3, hk _ _ _ (by omega) h4, hk _ _ _ (by omega) h5, h6.keepB fun C t => hk _ C t (by omega), h7, fun j hj => ?_, h9, h10.trans hb⟩
  obtain ⟨b, u, a1, a2, a3, a4⟩ := h8 j hj
  exact ⟨b, u, a1, a2, a3, a4.keepB fun C t => hk _ C t (by omega)⟩
/-- The program has found that the text is none. -/
def LineX (w0 : World) (B : Nat) (l : List UInt8) (many most : Nat) (W : World) : Prop :=
  Blk W (B + 2) #[.slice none 0 0] 90 ∧ Blk W (B + 3) #[.bool false] 4 ∧ ¬ goodTo l many most (linesL l).length ∧ Below B w0 W
theorem wpListIn_app {F : Fence} {d : Nat} {P : Program} {w : World} {ops : Array Oper} {rest : List Oper} {o : Oper} {a : Act} {Q : Exit → Act → World → Prop} {t e e' : TypeId} {s bytes : Nat} {sl x : Operand} {v : Value} {g n b m c : Nat} {xs : List Value} {news : Array Value} (hE : ElemTy P t e s bytes) (hgd : o.guard = none) (ho : o.op = .call { callee := .builtin .append, args := #[sl, x], argTypes := #[t, t] }) (hv : a.eval sl = v) (hx : a.eval x = .slice (some ⟨b, 0, none⟩) m c)
    (hs : 0 < s) (hown : Own w g e s v n xs) (hb : Blk w b news e') (hl : news.size = m * s) (h1 : ∀ u ∈ news.toList, u.oneCell' = true) (h63 : n + m ≤ maxLen) (hbytes : (n + m) * bytes ≤ 140737488355328)
    (h : ∀ v' w' g', Own w' g' e s v' (n + m) (xs ++ news.toList) → w.grownBy w' (some g) → (g' = g ∨ g' = w.heap.size) → wpListIn F d P ops Q rest (a.put o.dst v') w') : wpListIn F d P ops Q (o :: rest) a w :=
  wpListIn_plain hgd fun K hK => by
    obtain ⟨v', w', g', hr, h2, h3, h4⟩ := run_app (P := P) (ty := o.type) hE hs hown (ad := ⟨b, 0, none⟩) (m := m) (c := c) (news := news.toList) (by simpa using hl) (fun j u hu => by
      have hadd : (⟨b, 0, none⟩ : Addr).add j = ⟨b, j, none⟩ := by unfold Addr.add; split <;> simp_all
      rw [hadd, hb.cell]; simpa using hu) h1 h63 hbytes
    unfold Oper.wpIn
    refine ⟨?_, ?_⟩
    · simp [Oper.about, ho, resolve, Target.leads, Sem.run_pure]
    · rw [Oper.semAt_plain F _ _ (by rw [ho]; intro c hc'; cases hc')]
      simp [execOp, ho, resolve, invoke, builtin, hv, hx, hr, Result.andThen]
      exact hK _ _ (h v' w' g' h2 h3 h4)
theorem Own.isCells {w : World} {g : Nat} {e : TypeId} {s : Nat} {v : Value} {n : Nat} {xs : List Value} (h : Own w g e s v n xs) {o : Obj} (ho : w.heap[g]? = some o) : o.isCells = true := by
  obtain ⟨_, _, _, _, hb, _⟩ := h
  rw [hb] at ho; injection ho with ho; subst ho; rfl
/-- What lineWords hands back. -/
def LinesRet (w0 : World) (l : List UInt8) (many most : Nat) (W : World) (v : Value) (ok : Bool) : Prop :=
  (goodTo l many most (linesL l).length ∧ ok = true ∧ ∃ g vs, w0.heap.size ≤ g ∧ Own W g 93 1 v (linesL l).length vs ∧ ∀ j, j < (linesL l).length → ∃ b u, vs[j]? = some u ∧ w0.heap.size ≤ b ∧ Own W b 9 1 u (lineWs ((linesL l).getD j [])).length (strs (lineWs ((linesL l).getD j [])))) ∨
  (¬ goodTo l many most (linesL l).length ∧ ok = false ∧ v = .slice none 0 0)
theorem line0 (w : World) (l : List UInt8) (many most : Nat) (s : ByteArray) (v : Value) (hv : v = .string s) :
    LineI w w.heap.size l many most 0 (((((((w.alloc (.cells #[.int .i64 many] 3)).alloc (.cells #[.int .i64 most] 3)).alloc (.cells #[.slice none 0 0] 90)).alloc (.cells #[.bool false] 4)).alloc (.cells #[] 93)).alloc (.cells #[.slice (some ⟨w.heap.size + 1 + 1 + 1 + 1, 0, none⟩) 0 0] 90)).alloc (.cells #[.string s] 9)) ∧ LeftAt (w.heap.size + 6) v (((((((w.alloc (.cells #[.int .i64 many] 3)).alloc (.cells #[.int .i64 most] 3)).alloc (.cells #[.slice none 0 0] 90)).alloc (.cells #[.bool false] 4)).alloc (.cells #[] 93)).alloc (.cells #[.slice (some ⟨w.heap.size + 1 + 1 + 1 + 1, 0, none⟩) 0 0] 90)).alloc (.cells #[.string s] 9)) ∧ ((((((((w.alloc (.cells #[.int .i64 many] 3)).alloc (.cells #[.int .i64 most] 3)).alloc (.cells #[.slice none 0 0] 90)).alloc (.cells #[.bool false] 4)).alloc (.cells #[] 93)).alloc (.cells #[.slice (some ⟨w.heap.size + 1 + 1 + 1 + 1, 0, none⟩) 0 0] 90)).alloc (.cells #[.string s] 9))).heap.size = w.heap.size + 7 := by
  subst hv
  have b0 := Blk.new w #[.int .i64 many] 3
  have z0 := World.size_alloc w (.cells #[.int .i64 many] 3)
  have l0 := (Below.refl w.heap.size w).alloc (Nat.le_refl _) (.cells #[.int .i64 many] 3)
  generalize w.alloc (.cells #[.int .i64 many] 3) = w1 at *
  have b1 := Blk.new w1 #[.int .i64 most] 3
  have z1 := World.size_alloc w1 (.cells #[.int .i64 most] 3)
  replace b0 := b0.alloc (.cells #[.int .i64 most] 3)
  replace l0 := l0.alloc (by omega) (.cells #[.int .i64 most] 3)
  generalize w1.alloc (.cells #[.int .i64 most] 3) = w2 at *
  have b2 := Blk.new w2 #[.slice none 0 0] 90
  have z2 := World.size_alloc w2 (.cells #[.slice none 0 0] 90)
  replace b0 := b0.alloc (.cells #[.slice none 0 0] 90)
  replace b1 := b1.alloc (.cells #[.slice none 0 0] 90)
  replace l0 := l0.alloc (by omega) (.cells #[.slice none 0 0] 90)
  generalize w2.alloc (.cells #[.slice none 0 0] 90) = w3 at *
  have b3 := Blk.new w3 #[.bool false] 4
  have z3 := World.size_alloc w3 (.cells #[.bool false] 4)
  replace b0 := b0.alloc (.cells #[.bool false] 4)
  replace b1 := b1.alloc (.cells #[.bool false] 4)
  replace b2 := b2.alloc (.cells #[.bool false] 4)
  replace l0 := l0.alloc (by omega) (.cells #[.bool false] 4)
  generalize w3.alloc (.cells #[.bool false] 4) = w4 at *
  have b4 := ((Blk.new w4 #[] 93).alloc (.cells #[.slice (some ⟨w.heap.size + 1 + 1 + 1 + 1, 0, none⟩) 0 0] 90)).alloc (.cells #[.string s] 9)
  have b5 := (Blk.new (w4.alloc (.cells #[] 93)) #[.slice (some ⟨w.heap.size + 1 + 1 + 1 + 1, 0, none⟩) 0 0] 90).alloc (.cells #[.string s] 9)
  have b6 := Blk.new ((w4.alloc (.cells #[] 93)).alloc (.cells #[.slice (some ⟨w.heap.size + 1 + 1 + 1 + 1, 0, none⟩) 0 0] 90)) #[.string s] 9
  replace b0 := ((b0.alloc (.cells #[] 93)).alloc (.cells #[.slice (some ⟨w.heap.size + 1 + 1 + 1 + 1, 0, none⟩) 0 0] 90)).alloc (.cells #[.string s] 9)
  replace b1 := ((b1.alloc (.cells #[] 93)).alloc (.cells #[.slice (some ⟨w.heap.size + 1 + 1 + 1 + 1, 0, none⟩) 0 0] 90)).alloc (.cells #[.string s] 9)
  replace b2 := ((b2.alloc (.cells #[] 93)).alloc (.cells #[.slice (some ⟨w.heap.size + 1 + 1 + 1 + 1, 0, none⟩) 0 0] 90)).alloc (.cells #[.string s] 9)
  replace b3 := ((b3.alloc (.cells #[] 93)).alloc (.cells #[.slice (some ⟨w.heap.size + 1 + 1 + 1 + 1, 0, none⟩) 0 0] 90)).alloc (.cells #[.string s] 9)
  replace l0 := ((l0.alloc (by omega) (.cells #[] 93)).alloc (by simp; omega) (.cells #[.slice (some ⟨w.heap.size + 1 + 1 + 1 + 1, 0, none⟩) 0 0] 90)).alloc (by simp; omega) (.cells #[.string s] 9)
  simp only [World.size_alloc] at b4 b5 b6
  rw [show w1.heap.size = w.heap.size + 1 by omega] at b1
  rw [show w2.heap.size = w.heap.size + 2 by omega] at b2
  rw [show w3.heap.size = w.heap.size + 3 by omega] at b3
  rw [show w4.heap.size = w.heap.size + 4 by omega] at b4
  rw [show w4.heap.size + 1 = w.heap.size + 5 by omega] at b5
  rw [show w4.heap.size + 1 + 1 = w.heap.size + 6 by omega] at b6
  refine ⟨⟨_, w.heap.size + 4, [], b0, b1, b2, b3, b5, own_blk b4 rfl (by decide) rfl, .inl rfl, fun j hj => absurd hj (by omega), ⟨by omega, fun j hj => absurd hj (by omega)⟩, l0⟩, ⟨b6.cell 0, b6.free 0⟩, by simp; omega⟩
theorem lineSplit (T : ByteArray) (hT : T.size ≤ 1048576) (many : Nat) (hmany : many ≤ 10) : ∃ P cap C, P ≤ many + 1 ∧ (P = many ↔ (splitL 32 T.data.toList).length = many) ∧
    (∀ w (m : Int), w.cell? ⟨3, 0, none⟩ = some (.int .i64 m) → Calls Tryz.prog 114 #[.string T, .string ⟨#[32]⟩, .int .i64 ((many : Int) + 1)] w fun e w' => e = .returned (.slice (some ⟨w.heap.size, 0, none⟩) P cap) ∧ w' = w.alloc (.cells C 9)) ∧
    (P = many → ∀ W b, Blk W b C 9 → Own W b 9 1 (.slice (some ⟨b, 0, none⟩) P cap) (splitL 32 T.data.toList).length (strs (splitL 32 T.data.toList))) := by
  have hk := splitB_len T (min (many + 1) (T.size + 1) - 1)
  have hsz : T.data.toList.length = T.size := rfl
  have hle := splitL_length 32 T.data.toList
  have hpos := List.length_pos_iff.2 (splitL_ne 32 T.data.toList)
  refine ⟨(Lib.splitB ⟨#[32]⟩ 0 (min (many + 1) (T.size + 1) - 1) T).length, min (many + 1) (T.size + 1), Lib.cellsOf (Lib.splitB ⟨#[32]⟩ 0 (min (many + 1) (T.size + 1) - 1) T) (min (many + 1) (T.size + 1)), by omega, by omega, fun w m hm => ?_, fun hP W b hb => ?_⟩
  · exact sh_strings_SplitN T ⟨#[32]⟩ (many + 1) m w (by omega) hm (by decide) (by omega) (by omega)
  · have he := splitB_eq T (min (many + 1) (T.size + 1) - 1) (by omega)
    have e1 : (splitL 32 T.data.toList).length = (Lib.splitB ⟨#[32]⟩ 0 (min (many + 1) (T.size + 1) - 1) T).length := by rw [← strs_length, ← he]; simp
    rw [← he, e1]
    refine ⟨by simp, _, _, rfl, hb, by omega, by unfold maxLen; omega, ?_, ?_⟩
    · rw [Lib.cellsOf_size (by omega)]; omega
    · unfold Lib.cellsOf
      simp [List.take_append]
attribute [local irreducible] Blk in
theorem lineRes {tmps : Array Value} {W : World} {B : Nat} {u u' : Value} (h0 : tmps.getD 6 undef = .pointer (some ⟨B + 2, 0, none⟩)) (h1 : tmps.getD 7 undef = .pointer (some ⟨B + 3, 0, none⟩)) (c0 : W.cell? ⟨B + 2, 0, none⟩ = some u) (c1 : W.cell? ⟨B + 3, 0, none⟩ = some u') :
    (results Tryz.f59 tmps).run Tryz.prog W = .ok (.tuple #[u, u']) W := by
  have hr : Tryz.f59.results = #[.cell 6 90, .cell 7 4] := rfl
  have h0' : tmps[6]?.getD undef = .pointer (some ⟨B + 2, 0, none⟩) := by simpa using h0
  have h1' : tmps[7]?.getD undef = .pointer (some ⟨B + 3, 0, none⟩) := by simpa using h1
  have u0 := Tryz.underlying90
  have u1 := Tryz.underlying4
  simp only [results, hr]
  simp [h0', h1', asAddr, go_sem, c0, c1, u0, u1]
set_option maxRecDepth 100000 in
set_option maxHeartbeats 4000000 in
theorem lineWords_any (s : ByteArray) (hs : s.size ≤ 1048576) (many most : Nat) (hmany : many ≤ 10) (hmost : most ≤ 1000) (w : World) (m : Int) (hm : w.cell? ⟨3, 0, none⟩ = some (.int .i64 m)) :
    Calls Tryz.prog 59 #[.string s, .int .i64 many, .int .i64 most] w fun e w' => ∃ v ok, e = .returned (.tuple #[v, .bool ok]) ∧ Below w.heap.size w w' ∧ LinesRet w s.data.toList many most w' v ok := by
  refine (callsIn_wide (n := 5)).1 ?_
  refine callsIn_of_wp_marks Tryz.func59 rfl trivial ?_ rfl
  simp only [Tryz.ntmps59, List.size_toArray, List.length_cons, List.length_nil, Nat.reduceAdd, Nat.reduceSub, Array.replicate_succ, Array.replicate_zero, List.push_toArray, List.append_toArray, List.nil_append, List.cons_append]
  gi_wp2_with (refine ⟨trivial, ?_⟩; gi_at_call 113; refine (callsIn_wide.2 (linesOf_any _ _)).mono ?_; rintro e w' ⟨rfl, hw⟩; rw [hw]; clear hw w')
  obtain ⟨l, hl⟩ : ∃ l, s.data.toList = l := ⟨_, rfl⟩
  have hll : l.length ≤ 1048576 := by rw [← hl]; exact hs
  have hL0 : leftV l 0 = .string s := by unfold leftV; rw [leftL_zero, ← hl]
  obtain ⟨hI0, hC0, hsz0⟩ := line0 w l many most s _ hL0
  generalize (((((((w.alloc (.cells #[.int .i64 many] 3)).alloc (.cells #[.int .i64 most] 3)).alloc (.cells #[.slice none 0 0] 90)).alloc (.cells #[.bool false] 4)).alloc (.cells #[] 93)).alloc (.cells #[.slice (some ⟨w.heap.size + 1 + 1 + 1 + 1, 0, none⟩) 0 0] 90)).alloc (.cells #[.string s] 9)) = W0 at *
  refine wpIn_rangeLeft (c := w.heap.size + 6) (N := (linesL l).length) (arg := argL l) (left := leftV l) rfl (by omega) (gf := 145) (lb := #[.pointer (some ⟨w.heap.size + 6, 0, none⟩)]) rfl trivial (enters_of Tryz.func145 (by kernel_rfl) rfl) (lines_it l hll _ _ (by omega)) (by omega) hC0
    (LineI w w.heap.size l many most) (LineX w w.heap.size l many most) hI0 ?_ ?_ ?_ ?_ (fun k => { tmps := #[.string s, .int .i64 many, .int .i64 most, undef, .pointer (some ⟨w.heap.size, 0, none⟩), .pointer (some ⟨w.heap.size + 1, 0, none⟩), .pointer (some ⟨w.heap.size + 1 + 1, 0, none⟩), .pointer (some ⟨w.heap.size + 1 + 1 + 1, 0, none⟩), .pointer (some ⟨w.heap.size + 1 + 1 + 1 + 1 + 1, 0, none⟩), argL l k, undef, .slice (some ⟨w.heap.size + 1 + 1 + 1 + 1, 0, none⟩) 0 0, .string s, .func (.func 145) #[] #[.pointer (some ⟨w.heap.size + 1 + 1 + 1 + 1 + 1 + 1, 0, none⟩)], argL l k, undef, undef, undef, undef, undef, undef, undef, undef, undef, undef, undef, undef, undef, undef, undef, undef, undef, undef, undef, undef], defers := [] }) ?assign ?body ?done ?stop
  case assign =>
    subst hl
    intro L k W K hK
    gi_wp2
    exact hK
  case body =>
    intro L k W hk hI hL hsz
    have hst := leftL_step hk
    have hln : ((linesL l)[k]).length ≤ l.length := by
      have h1 := leftL_len l k
      rw [hst.1] at h1; simp at h1; omega
    have ha : argL l k = .string ⟨((linesL l)[k]).toArray⟩ := by
      unfold argL; rw [List.getD_eq_getElem?_getD, List.getElem?_eq_getElem hk]; rfl
    have hlw : (linesL l).getD k [] = (linesL l)[k] := by rw [List.getD_eq_getElem?_getD, List.getElem?_eq_getElem hk]; rfl
    rw [ha]
    clear hst ha
    have htrim := fun w' => sh_strings_TrimSuffix ⟨((linesL l)[k]).toArray⟩ ⟨#[10]⟩ w' (by simp [ByteArray.size]; omega)
    rw [show (⟨((linesL l)[k]).toArray⟩ : ByteArray).data.toList = (linesL l)[k] by simp, show (⟨#[10]⟩ : ByteArray).data.toList = [10] from rfl] at htrim
    have htl : (Lib.trimSuffix ((linesL l)[k]) [10]).length ≤ ((linesL l)[k]).length := by
      unfold Lib.trimSuffix; split
      · simp
      · exact Nat.le_refl _
    obtain ⟨P, cap, C, hP1, hP2, hspl, hPO⟩ := lineSplit ⟨(Lib.trimSuffix ((linesL l)[k]) [10]).toArray⟩ (by simp [ByteArray.size]; omega) many hmany
    rw [show (⟨(Lib.trimSuffix ((linesL l)[k]) [10]).toArray⟩ : ByteArray).data.toList = Lib.trimSuffix ((linesL l)[k]) [10] by simp, ← hlw] at hP2 hPO
    rw [show splitL 32 (Lib.trimSuffix ((linesL l).getD k []) [10]) = lineWs ((linesL l).getD k []) from rfl] at hP2 hPO
    clear hln htl hlw
    obtain ⟨v, g, vs, h1, h2, h3, h4, h5, h6, h7, h8, h9, h10⟩ := hI
    have hmW : W.cell? ⟨3, 0, none⟩ = some (.int .i64 m) := (h10.cell (Lib.lt_of_cell hm)).trans hm
    have c1 : W.cell? ⟨w.heap.size, 0, none⟩ = some (.int .i64 many) := h1.cell 0
    generalize (⟨(Lib.trimSuffix ((linesL l)[k]) [10]).toArray⟩ : ByteArray) = T at *
    generalize (⟨((linesL l)[k]).toArray⟩ : ByteArray) = S at *
    gi_wp2
    have hmx : Tryz.prog.follows .mixedOrders = true := by kernel_rfl
    have hwr : IntKind.i64.wrap ((many : Int) + 1) = (many : Int) + 1 := IntWalk.i64_in _ (by omega)
    gi_region_with_o (first | (refine ⟨trivial, ?_⟩; gi_at_call 115; refine (CallsIn.inRound L (callsIn_wide.2 (htrim _))).mono ?_; rintro e w' ⟨rfl, hw⟩; rw [hw]; clear hw w') | (refine ⟨trivial, ?_⟩; gi_at_call 114; refine (CallsIn.inRound L (callsIn_wide.2 (hspl _ m (by exact hmW)))).mono ?_; rintro e w' ⟨rfl, hw⟩; rw [hw]; clear hw w'))
    all_goals (
      have hle : w.heap.size ≤ W.heap.size := by omega
      have hgl := h6.lt
      have hL1 : LeftAt (w.heap.size + 6) (leftV l (k + 1)) (W.alloc (.cells C 9)).drew := hL.move (heap_alloc_old W _ (by omega))
      have hB1 : Blk (W.alloc (.cells C 9)).drew W.heap.size C 9 := Blk.new _ _ _
      have hK1 : KeepsOthers W (W.alloc (.cells C 9)).drew := (KeepsOthers.alloc _ _).trans (KeepsOthers.drew _)
      have hb1 : Below w.heap.size w (W.alloc (.cells C 9)).drew := (h10.alloc hle _).drew
      have hz1 : (W.alloc (.cells C 9)).drew.heap.size = W.heap.size + 1 := World.size_alloc _ _
      have HZ := Lib.hid hz1
      clear hz1
      replace h8 : ∀ j, j < k → ∃ b u, vs[j]? = some u ∧ w.heap.size + 7 ≤ b ∧ b ≠ g ∧ b < W.heap.size ∧ Own (W.alloc (.cells C 9)).drew b 9 1 u (lineWs ((linesL l).getD j [])).length (strs (lineWs ((linesL l).getD j []))) := fun j hj => by
        obtain ⟨b, u, a1, a2, a3, a4⟩ := h8 j hj
        exact ⟨b, u, a1, a2, a3, a4.lt, a4.alloc _⟩
      replace h1 := (h1.alloc (.cells C 9)).drew
      replace h2 := (h2.alloc (.cells C 9)).drew
      replace h3 := (h3.alloc (.cells C 9)).drew
      replace h4 := (h4.alloc (.cells C 9)).drew
      replace h5 := (h5.alloc (.cells C 9)).drew
      replace h6 : Own (W.alloc (.cells C 9)).drew g 93 1 v k vs := h6.alloc (.cells C 9)
      clear c1 hmW h10
      generalize (W.alloc (.cells C 9)).drew = W1 at *
      obtain ⟨cp, rfl, hcp1, hcp2⟩ := h6.form
      have c1 : W1.cell? ⟨w.heap.size, 0, none⟩ = some (.int .i64 many) := h1.cell 0
      have c2 : W1.cell? ⟨w.heap.size + 1, 0, none⟩ = some (.int .i64 most) := h2.cell 0
      have c5 : W1.cell? ⟨w.heap.size + 1 + 1 + 1 + 1 + 1, 0, none⟩ = some (.slice (some ⟨g, 0, none⟩) k cp) := h5.cell 0
      have c3 : W1.cell? ⟨w.heap.size + 1 + 1, 0, none⟩ = some (.slice none 0 0) := h3.cell 0
      have c4 : W1.cell? ⟨w.heap.size + 1 + 1 + 1, 0, none⟩ = some (.bool false) := h4.cell 0
      have f3 : W1.frozen? ⟨w.heap.size + 1 + 1, 0, none⟩ = false := h3.free 0
      have f4 : W1.frozen? ⟨w.heap.size + 1 + 1 + 1, 0, none⟩ = false := h4.free 0
      by_cases hP : P = many
      · by_cases hm2 : k = most
        · have hng : ¬ goodTo l many most (linesL l).length := goodTo_not hk (.inr hm2)
          have e1 : (P : Int) = many := by omega
          have e2 : (k : Int) = most := by omega
          clear hP hm2 hPO hP2
          gi_wp2
          exact ⟨(hK1.trans (KeepsOthers.setCell _ _ _)).trans (KeepsOthers.setCell _ _ _), (h3.setCell 0 _).setOther _ (by simp), (h4.setOther _ (by simp)).setCell 0 _, hng, (hb1.setCell (by simp; omega) _).setCell (by simp; omega) _⟩
        · have e1 : (P : Int) = many := by omega
          have e2 : ¬ (k : Int) = most := by omega
          have hO1 := hPO hP _ _ hB1
          have hgd := goodTo_next h9 (hP2.1 hP) hm2
          have hk1000 : k ≤ 1000 := by have := h9.1; omega
          clear hP hm2 hPO hP2
          gi_wp2_with (gi_at_builtin; refine wpListIn_app elStrs rfl rfl rfl rfl Nat.one_pos (h6.alloc _) (Blk.new _ _ _) rfl ?_ ?_ ?_ ?_; (· intro u hu; simp at hu; subst hu; rfl); (· unfold maxLen; omega); (· omega); intro v1 w1 g1 hown1 hgr1 hg1; obtain ⟨cap1, rfl, _, _⟩ := hown1.form; have b5 := (h5.alloc (.cells #[.slice (some ⟨W.heap.size, 0, none⟩) P cap] 93)).grown hgr1 (by simp; omega); have c6 := b5.cell 0; have f6 := b5.free 0)
          have hgz := HZ.out
          have hb2 := (hb1.alloc (by omega) (.cells #[.slice (some ⟨W.heap.size, 0, none⟩) P cap] 93)).grown hgr1 (by simp; omega) (fun q hq => by injection hq with hq; omega)
          have hg2 : g1 = g ∨ g1 = W.heap.size + 2 := by rcases hg1 with h | h; exact .inl h; right; rw [h]; simp; omega
          refine ⟨hK1.trans ((KeepsOthers.alloc _ _).trans ((KeepsOthers.of_grownBy hgr1 (fun j o e ho => by injection e with e; subst e; exact (h6.alloc _).isCells ho)).trans (KeepsOthers.setCell _ _ _))), ⟨_, g1, _, ((h1.alloc _).grown hgr1 (by simp; omega)).setOther _ (by simp <;> omega), ((h2.alloc _).grown hgr1 (by simp; omega)).setOther _ (by simp <;> omega), ((h3.alloc _).grown hgr1 (by simp; omega)).setOther _ (by simp <;> omega), ((h4.alloc _).grown hgr1 (by simp; omega)).setOther _ (by simp <;> omega), b5.setCell 0 _, hown1.setOther _ (by simp; omega), by omega, fun j hj => ?_, hgd, hb2.setCell (by simp; omega) _⟩, ((hL1.move (heap_alloc_old _ _ (by omega))).move (hgr1.block _ (by simp; omega) (by simp; omega))).move (heap_setCell_other _ _ _ _ (by simp))⟩
          by_cases hjk : j < k
          · obtain ⟨b, u, a1, a2, a3, a4, a5⟩ := h8 j hjk
            have hjl := (List.getElem?_eq_some_iff.1 a1).1
            exact ⟨b, u, by rw [List.getElem?_append_left hjl]; exact a1, a2, by omega, ((a5.alloc _).grown hgr1 (by simp; omega)).setOther _ (by simp; omega)⟩
          · obtain rfl : j = k := by omega
            have hvl : vs.length = j := by have := h6.1; omega
            exact ⟨W.heap.size, _, by rw [List.getElem?_append_right (by omega), hvl, Nat.sub_self]; rfl, by omega, by omega, ((hO1.alloc _).grown hgr1 (by simp; omega)).setOther _ (by simp; omega)⟩
      · have hng : ¬ goodTo l many most (linesL l).length := goodTo_not hk (.inl (fun h => hP (hP2.2 h)))
        have e1 : ¬ (P : Int) = many := by omega
        clear hP hPO hP2
        gi_wp2
        exact ⟨(hK1.trans (KeepsOthers.setCell _ _ _)).trans (KeepsOthers.setCell _ _ _), (h3.setCell 0 _).setOther _ (by simp), (h4.setOther _ (by simp)).setCell 0 _, hng, (hb1.setCell (by simp; omega) _).setCell (by simp; omega) _⟩)
  case done =>
    intro D W hI hD hK
    obtain ⟨v, g, vs, h1, h2, h3, h4, h5, h6, h7, h8, h9, h10⟩ := hI
    obtain ⟨cp, rfl, hcp1, hcp2⟩ := h6.form
    have c5 : W.cell? ⟨w.heap.size + 1 + 1 + 1 + 1 + 1, 0, none⟩ = some (.slice (some ⟨g, 0, none⟩) (linesL l).length cp) := h5.cell 0
    have c3 : W.cell? ⟨w.heap.size + 1 + 1, 0, none⟩ = some (.slice none 0 0) := h3.cell 0
    have c4 : W.cell? ⟨w.heap.size + 1 + 1 + 1, 0, none⟩ = some (.bool false) := h4.cell 0
    have f3 : W.frozen? ⟨w.heap.size + 1 + 1, 0, none⟩ = false := h3.free 0
    have f4 : W.frozen? ⟨w.heap.size + 1 + 1 + 1, 0, none⟩ = false := h4.free 0
    gi_wp2
    refine ⟨by simp, .inl ⟨_, _, rfl, run_takeDeferred (((KeepsOthers.setCell _ _ _).trans (KeepsOthers.setCell _ _ _)).same D _ hK rfl), ?_⟩⟩
    subst hl
    have hD' := ((KeepsOthers.setCell W ⟨w.heap.size + 1 + 1, 0, none⟩ (.slice (some ⟨g, 0, none⟩) (linesL s.data.toList).length cp)).trans (KeepsOthers.setCell _ ⟨w.heap.size + 1 + 1 + 1, 0, none⟩ (.bool true))).same D _ hK rfl
    have e3 : w.heap.size ≤ w.heap.size + 1 + 1 := by omega
    have e4 : w.heap.size ≤ w.heap.size + 1 + 1 + 1 := by omega
    refine ⟨_, lineRes (B := w.heap.size) rfl rfl (((blk_put (((KeepsOthers.setCell _ _ _).trans (KeepsOthers.setCell _ _ _)).same D _ hK rfl) rfl ((h3.setCell 0 _).setOther _ (by simp)))).cell 0) ((blk_put (((KeepsOthers.setCell _ _ _).trans (KeepsOthers.setCell _ _ _)).same D _ hK rfl) rfl ((h4.setOther _ (by simp)).setCell 0 _)).cell 0), _, _, rfl, ?_, .inl ⟨h9, rfl, g, vs, by omega, ?_, ?_⟩⟩
    · exact ((h10.setCell (p := ⟨w.heap.size + 1 + 1, 0, none⟩) e3 _).setCell (p := ⟨w.heap.size + 1 + 1 + 1, 0, none⟩) e4 _).trans ⟨rfl, rfl, rfl, by simp, fun q hq => World.putObj_heap_other (by omega)⟩
    · exact ((h6.setOther _ (by simp; omega)).setOther _ (by simp; omega)).keepB fun C t => blk_put hD' rfl
    · intro j hj
      obtain ⟨b, u, a1, a2, a3, a4⟩ := h8 j hj
      exact ⟨b, u, a1, by omega, ((a4.setOther _ (by simp; omega)).setOther _ (by simp; omega)).keepB fun C t => blk_put hD' rfl⟩
  case stop =>
    intro D W hX hD hK
    obtain ⟨x1, x2, x3, x4⟩ := hX
    gi_wp2
    refine ⟨by simp, .inl ⟨_, _, rfl, run_takeDeferred hK, ?_⟩⟩
    subst hl
    refine ⟨_, lineRes (B := w.heap.size) rfl rfl ((blk_put hK rfl x1).cell 0) ((blk_put hK rfl x2).cell 0), _, _, rfl, ?_, .inr ⟨x3, rfl, rfl⟩⟩
    exact x4.trans ⟨rfl, rfl, rfl, by simp, fun q hq => World.putObj_heap_other (by omega)⟩
  · intro k W o h
    have hle : w.heap.size ≤ W.heap.size := by obtain ⟨v, g, vs, _, _, _, _, _, _, _, _, _, h10⟩ := h; exact h10.size
    exact h.move (fun b C t _ hb => hb.alloc o) ((Below.refl _ W).alloc hle o)
  · intro k W l' o o' hl' h hc hi
    exact hi.move (fun b C t _ hb => blk_put h hc hb) ⟨rfl, rfl, rfl, by simp, fun q hq => World.putObj_heap_other (by omega)⟩
  · intro W l' o o' hl' h hc ⟨x1, x2, x3, x4⟩
    exact ⟨blk_put h hc x1, blk_put h hc x2, x3, x4.trans ⟨rfl, rfl, rfl, by simp, fun q hq => World.putObj_heap_other (by omega)⟩⟩
  · intro k W W' h hs'
    obtain ⟨q, rfl | ⟨v, rfl⟩⟩ := hs'
    · exact h.move (fun b C t _ hb => hb.drewN q) (below_drewN (Below.refl _ W) q)
    · exact h.move (fun b C t hne hb => (hb.setOther v hne).drewN q) (below_drewN ((Below.refl _ W).setCell (p := ⟨w.heap.size + 6, 0, none⟩) (by simp) v) q)
end Go.Proofs.YtglimhkpndfjgaaGreatDoor
