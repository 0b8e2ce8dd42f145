import Derived.Test.YtmmfnklnmdhkiaaGreatMU26
import Derived.Lib.SliceRun
import Derived.Laws.IdiomCopy
/- slices.DeleteFunc over whole numbers: what is left are those of which the function says no, in their order. -/
namespace Go.Proofs.YtmmfnklnmdhkiaaGreat
open Go.ChangeShapes Go.WideShapes Go.ChangeAt Go.RowKit
set_option linter.unusedVariables false
set_option linter.unusedSimpArgs false
attribute [local irreducible] Calls
/-- A call of a function value with a receiver bound. -/
theorem wpList_callb {P : Program} {ops : Array Oper} {rest : List Oper} {o : Oper} {a : Act} {Q : Exit → Act → World → Prop} {w : World} {x : Operand} {xs : Array Operand} {ts : Array TypeId} {f : FuncId} {bd : Array Value} {l : List Value} (hgd : o.guard = none) (ho : o.op = .call { callee := .value x, args := xs, argTypes := ts }) (hx : a.eval x = .func (.func f) bd #[]) (ha : xs.toList.map a.eval = l) (hf : Callable P f)
    (h : Calls P f (bd ++ l.toArray) w fun e w' => ∃ v, e = .returned v ∧ wpList P ops Q rest (a.put o.dst v) w') : wpList P ops Q (o :: rest) a w :=
  wpList_plain hgd fun K hK => by
    obtain ⟨fn, hf, hn, hb⟩ := hf
    have e : xs.map a.eval = l.toArray := by rw [← ha, ← Array.toList_map, Array.toArray_toList]
    have hn' : fn.name ≠ "runtime.NumGoroutine" := by simpa using hn
    have hb' : ¬ fn.body = none := by intro h0; rw [h0] at hb; simp at hb
    have hr : (execOp a.eval o).run P w = .ok (.enter f (bd ++ l.toArray)) w := by
      simp [execOp, ho, resolve, e, hx, Deferred.ofValue, invoke, callFunc, hf, hn', hb']
    unfold Oper.wp
    rw [hr]
    exact h.mono fun e w' ⟨v, he, hv⟩ => by subst he; exact hK _ _ hv
set_option maxRecDepth 100000 in
set_option maxHeartbeats 400000 in
theorem indexFirst_any (q : Nat → Bool) (fid : Nat) (bd : Array Value) (L : List Nat) (r c : Nat) (w : World) (hL : L.length ≤ 64) (hown : Own w r 3 1 (.slice (some ⟨r, 0, none⟩) L.length c) L.length (ils L)) (hf : Callable Tryz.prog fid)
    (hcall : ∀ (k : Nat), k ∈ L → Calls Tryz.prog fid (bd ++ #[.int .i64 k]) w fun e w'' => e = .returned (.bool (q k)) ∧ w'' = w) :
    Calls Tryz.prog 89 #[.slice (some ⟨r, 0, none⟩) L.length c, .func (.func fid) bd #[]] w fun e w' => ∃ x : Int, e = .returned (.int .i64 x) ∧ Hid ((x = -1 ∧ ∀ i, i < L.length → q (L.getD i 0) = false) ∨ (∃ j : Nat, x = j ∧ j < L.length ∧ q (L.getD j 0) = true ∧ ∀ i, i < j → q (L.getD i 0) = false)) ∧ w' = w := by
  obtain ⟨_, hcap, hc1, hc2⟩ := hown.form
  unfold maxLen at hc2
  clear hcap
  have HC := Lib.hid hcall
  clear hcall
  go_enter Tryz.func89, Tryz.ntmps89
  go_wp2_with fail
  go_loopw [8] (fun i wr => ∃ j : Nat, j ≤ L.length ∧ i = .int .i64 j ∧ Hid (∀ i, i < j → q (L.getD i 0) = false) ∧ wr = w) (fun i _ => L.length - (intOf i).toNat)
  case atStart => exact ⟨0, by omega, rfl, Lib.hid (fun i hi => by omega), rfl⟩
  case round =>
    obtain ⟨j, hj, rfl, hq, hw⟩ := hrel
    rw [hw]
    clear hw wr
    have bj : (0 : Int) ≤ j := by omega
    by_cases hlt : j < L.length
    · have bl : (j : Int) < L.length := by omega
      obtain ⟨k, hk⟩ : ∃ k, L[j]? = some k := ⟨_, List.getElem?_eq_getElem hlt⟩
      have hkD : L.getD j 0 = k := by rw [List.getD_eq_getElem?_getD, hk]; rfl
      have c0 : w.cell? ⟨r, j, none⟩ = some (.int .i64 k) := (hown.cell _ (by omega)).trans (ils_get _ _ _ hk)
      have hcall := HC.out k (List.mem_of_getElem? hk)
      clear hk
      cases hqk : q k <;> rw [hqk] at hcall
      · have HQ : Hid (∀ i, i < j + 1 → q (L.getD i 0) = false) := Lib.hid fun i hi => by
          by_cases hij : i = j
          · subst hij; rw [hkD]; exact hqk
          · exact hq.out i (by omega)
        clear hqk hkD
        go_wp2_with (refine wpList_callb (bd := bd) (l := [.int .i64 k]) rfl rfl rfl rfl hf ?_; refine hcall.mono ?_; rintro e w1 ⟨rfl, hw⟩; refine ⟨_, rfl, ?_⟩; rw [hw]; clear hw w1)
        go_roundw
        case rel => exact ⟨j + 1, by omega, by go_num, HQ, by first | rfl | trivial⟩
        case measure => simp [intOf]; omega
      · have HQ : Hid (q (L.getD j 0) = true) := Lib.hid (by rw [hkD]; exact hqk)
        clear hqk hkD
        go_wp2_with (refine wpList_callb (bd := bd) (l := [.int .i64 k]) rfl rfl rfl rfl hf ?_; refine hcall.mono ?_; rintro e w1 ⟨rfl, hw⟩; refine ⟨_, rfl, ?_⟩; rw [hw]; clear hw w1)
        go_ret
        exact ⟨_, rfl, Lib.hid (.inr ⟨j, rfl, hlt, HQ.out, hq.out⟩), rfl⟩
    · obtain rfl : j = L.length := by omega
      go_wp2_with fail
      go_ret
      exact ⟨_, rfl, Lib.hid (.inl ⟨rfl, hq.out⟩), rfl⟩
/-- Those among the first j of which q says no. -/
def nots (q : Nat → Bool) (L : List Nat) (j : Nat) : List Nat := (L.take j).filter fun k => !q k
theorem nots_succ {q : Nat → Bool} {L : List Nat} {j : Nat} (h : j < L.length) : nots q L (j + 1) = if q (L.getD j 0) then nots q L j else nots q L j ++ [L.getD j 0] := by
  unfold nots
  rw [List.take_add_one, List.getElem?_eq_getElem h, List.filter_append]
  have e : L.getD j 0 = L[j] := by rw [List.getD_eq_getElem?_getD, List.getElem?_eq_getElem h]; rfl
  rw [e]
  cases hq : q L[j] <;> simp [hq]
theorem nots_le (q : Nat → Bool) (L : List Nat) (j : Nat) : (nots q L j).length ≤ j := Nat.le_trans (List.length_filter_le _ _) (by rw [List.length_take]; omega)
theorem nots_none {q : Nat → Bool} {L : List Nat} : ∀ {j : Nat}, j ≤ L.length → (∀ i, i < j → q (L.getD i 0) = false) → nots q L j = L.take j
  | 0, _, _ => by simp [nots]
  | j + 1, hj, h => by
    rw [nots_succ (by omega), h j (by omega), nots_none (by omega) fun i hi => h i (by omega)]
    rw [List.take_add_one, List.getElem?_eq_getElem (by omega : j < L.length), List.getD_eq_getElem?_getD, List.getElem?_eq_getElem (by omega : j < L.length)]
    rfl
theorem setCells_blk (b : Nat) (t : TypeId) : ∀ (vs : List Value) (o : Nat) (w : World) (C : Array Value), Blk w b C t → ∃ C', Blk (w.setCells b o vs) b C' t ∧ C'.size = C.size ∧ ∀ i, i < o → C'[i]? = C[i]?
  | [], o, w, C, h => ⟨C, h, rfl, fun _ _ => rfl⟩
  | v :: vs, o, w, C, h => by
    obtain ⟨C', h1, h2, h3⟩ := setCells_blk b t vs (o + 1) (w.setCell ⟨b, o, none⟩ v) (C.setIfInBounds o v) (h.setCell o v)
    refine ⟨C', h1, by simpa using h2, fun i hi => ?_⟩
    rw [h3 i (by omega), Array.getElem?_setIfInBounds, if_neg (by omega)]
theorem setCells_grown (b : Nat) : ∀ (vs : List Value) (o : Nat) (w : World), w.grownBy (w.setCells b o vs) (some b)
  | [], _, w => World.grownBy.refl _ _
  | v :: vs, o, w => (grown_set w b o v).trans (setCells_grown b vs (o + 1) _)
theorem Own.cut {w w' : World} {g : Nat} {e : TypeId} {n c i : Nat} {xs : List Value} (h : Own w g e 1 (.slice (some ⟨g, 0, none⟩) n c) n xs) (hi : i ≤ n) {C : Array Value} (hb : Blk w' g C e) (hs : C.size = c) (hC : C.toList.take i = xs.take i) : Own w' g e 1 (.slice (some ⟨g, 0, none⟩) i c) i (xs.take i) := by
  obtain ⟨h1, cap, cur, hv, hbk, h2, h3, h4, h5⟩ := h
  injection hv with _ _ hv
  subst hv
  refine ⟨by rw [List.length_take]; omega, c, C, rfl, hb, by omega, h3, by omega, ?_⟩
  rw [Nat.mul_one]; exact hC
theorem Own.size {w : World} {g : Nat} {e : TypeId} {n c : Nat} {xs : List Value} (h : Own w g e 1 (.slice (some ⟨g, 0, none⟩) n c) n xs) : ∃ cur, Blk w g cur e ∧ cur.size = c ∧ cur.toList.take n = xs := by
  obtain ⟨h1, cap, cur, hv, hbk, h2, h3, h4, h5⟩ := h
  injection hv with _ _ hv
  subst hv
  exact ⟨cur, hbk, by omega, by rw [Nat.mul_one] at h5; exact h5⟩
theorem ils_set (M : List Nat) (i k : Nat) : (ils M).set i (.int .i64 k) = ils (M.set i k) := by unfold ils; rw [List.map_set]
theorem take_set_succ {α : Type} {M : List α} {i : Nat} {k : α} (h : i < M.length) : (M.set i k).take (i + 1) = M.take i ++ [k] := by
  rw [List.take_add_one, List.take_set, List.getElem?_set_self h]
  congr 1
  exact List.set_eq_of_length_le (by simp; omega)
/-- 'clear(s[i:])': the cells from i on hold something else. -/
theorem wpList_clear {P : Program} {ops : Array Oper} {rest : List Oper} {o : Oper} {a : Act} {Q : Exit → Act → World → Prop} {w : World} {t e : TypeId} {x : Operand} {r i n c : Nat} {C : Array Value} (ht : P.underlying t = some (.slice e)) (hv : ∀ w, (zeroValue e).run P w = .ok (.int .i64 0) w) (hgd : o.guard = none) (ho : o.op = .call { callee := .builtin .clear, args := #[x], argTypes := #[t] }) (hx : a.eval x = .slice (some ⟨r, i, none⟩) n c) (hb : Blk w r C e) (hn : 0 < n) (hs : i + n ≤ C.size)
    (h : ∀ C' w', Blk w' r C' e → C'.size = C.size → (∀ k, k < i → C'[k]? = C[k]?) → w.grownBy w' (some r) → wpList P ops Q rest (a.put o.dst (.tuple #[])) w') : wpList P ops Q (o :: rest) a w :=
  wpList_plain hgd fun K hK => by
    have hr := Lib.run_clear_slice (P := P) w t e o.type (.int .i64 0) ht hv rfl rfl r i n c hn (fun j hj => by rw [hb.cell]; simp; omega) (fun j _ => hb.free _)
    obtain ⟨C', h1, h2, h3⟩ := setCells_blk r e (List.replicate n (.int .i64 0)) i w C hb
    unfold Oper.wp execOp
    simp only [ho, resolve, invoke, builtin, Sem.run_bind, Sem.run_pure, Result.andThen_ok, List.map_toArray, List.map_cons, List.map_nil, hx, hr]
    exact hK _ _ (h C' _ h1 h2 h3 (setCells_grown r _ _ _))
set_option maxRecDepth 100000 in
set_option maxHeartbeats 1000000 in
theorem deleteFunc_any (q : Nat → Bool) (fid : Nat) (bd : Array Value) (L : List Nat) (r c : Nat) (w : World) (hL : L.length ≤ 64) (hown : Own w r 3 1 (.slice (some ⟨r, 0, none⟩) L.length c) L.length (ils L)) (hf : Callable Tryz.prog fid)
    (hcall : ∀ (k : Nat) w', k ∈ L → w.grownBy w' (some r) → Calls Tryz.prog fid (bd ++ #[.int .i64 k]) w' fun e w'' => e = .returned (.bool (q k)) ∧ w'' = w') :
    Calls Tryz.prog 50 #[.slice (some ⟨r, 0, none⟩) L.length c, .func (.func fid) bd #[]] w fun e w' => e = .returned (.slice (some ⟨r, 0, none⟩) (nots q L L.length).length c) ∧ Own w' r 3 1 (.slice (some ⟨r, 0, none⟩) (nots q L L.length).length c) (nots q L L.length).length (ils (nots q L L.length)) ∧ w.grownBy w' (some r) := by
  have hif := indexFirst_any q fid bd L r c w hL hown hf (fun k hk => hcall k w hk (World.grownBy.refl _ _))
  obtain ⟨_, hcap, hc1, hc2⟩ := hown.form
  injection hcap with _ _ hcap
  subst hcap
  unfold maxLen at hc2
  have HC := Lib.hid hcall
  clear hcall
  go_enter Tryz.func50, Tryz.ntmps50
  go_upto_region 2 with (go_at_call 89; refine hif.mono ?_; rintro e w1 ⟨x, rfl, hx, hw⟩; rw [hw]; clear hw w1)
  rcases hx.out with ⟨rfl, hx1⟩ | ⟨j0, rfl, hj0, hq0, hx1⟩
  · have hnn := nots_none (Nat.le_refl _) hx1
    rw [List.take_length] at hnn
    have HN := Lib.hid hnn
    clear hnn hif
    go_wp2_with fail
    go_ret
    rw [HN.out]
    exact ⟨rfl, hown, World.grownBy.refl _ _⟩
  · have bm : ((j0 : Int) == -1) = false := by simp
    have hn0 : nots q L (j0 + 1) = L.take j0 := by rw [nots_succ hj0, hq0, if_pos rfl, nots_none (by omega) hx1]
    have hl0 : (nots q L (j0 + 1)).length = j0 := by rw [hn0, List.length_take]; omega
    clear hif hx hx1
    go_upto_region 5 with fail
    go_loopw [5, 6] (fun a i wr => ∃ (j : Nat) (M : List Nat), j0 < j ∧ j ≤ L.length ∧ i = .int .i64 j ∧ a = .int .i64 (nots q L j).length ∧ (nots q L j).length < j ∧ M.length = L.length ∧ Hid (M.take (nots q L j).length = nots q L j ∧ ∀ t, j ≤ t → M[t]? = L[t]?) ∧ Own wr r 3 1 (.slice (some ⟨r, 0, none⟩) L.length c) L.length (ils M) ∧ w.grownBy wr (some r)) (fun _ i _ => L.length - (intOf i).toNat)
    case atStart => exact ⟨j0 + 1, L, by omega, by omega, by go_num, by rw [hl0], by omega, rfl, Lib.hid ⟨by rw [hl0, hn0], fun t _ => rfl⟩, hown, World.grownBy.refl _ _⟩
    case round =>
      clear hown hn0 hl0 hq0
      obtain ⟨j, M, hj0j, hj, rfl, rfl, hlj, hM, hMM, hown, hgr⟩ := hrel
      by_cases hlt : j < L.length
      · have bj : (0 : Int) ≤ j := by omega
        have bl : (j : Int) < L.length := by omega
        obtain ⟨k, hk⟩ : ∃ k, L[j]? = some k := ⟨_, List.getElem?_eq_getElem hlt⟩
        have hkD : L.getD j 0 = k := by rw [List.getD_eq_getElem?_getD, hk]; rfl
        have hMk : M[j]? = some k := (hMM.out.2 j (Nat.le_refl _)).trans hk
        have c0 : wr.cell? ⟨r, j, none⟩ = some (.int .i64 k) := (hown.cell _ (by omega)).trans (ils_get _ _ _ hMk)
        have hcall := HC.out k wr (List.mem_of_getElem? hk) hgr
        have hns := nots_succ (q := q) hlt
        rw [hkD] at hns
        have HM := hMM
        clear hk hMM hMk
        generalize hA : nots q L j = A at *
        have HA := Lib.hid hA
        clear hA
        cases hqk : q k <;> rw [hqk] at hcall hns
        · have HNS := Lib.hid (show nots q L (j + 1) = A ++ [k] from hns)
          clear hns hqk hkD
          have bA : (0 : Int) ≤ A.length := by omega
          have bB : (A.length : Int) < L.length := by omega
          have f1 := hown.free A.length
          obtain ⟨z, hz⟩ : ∃ z, M[A.length]? = some z := ⟨_, List.getElem?_eq_getElem (by omega)⟩
          have c1 : wr.cell? ⟨r, A.length, none⟩ = some (.int .i64 z) := (hown.cell _ (by omega)).trans (ils_get _ _ _ hz)
          clear hz
          go_wp2_with (refine wpList_callb (bd := bd) (l := [.int .i64 k]) rfl rfl rfl rfl hf ?_; refine hcall.mono ?_; rintro e w1 ⟨rfl, hw⟩; refine ⟨_, rfl, ?_⟩; rw [hw]; clear hw w1)
          go_roundw
          case rel =>
            have hset := hown.setCell A.length (.int .i64 k)
            rw [ils_set] at hset
            refine ⟨j + 1, M.set A.length k, by omega, by omega, by go_num, by rw [HNS.out, List.length_append, List.length_singleton]; rfl, by rw [HNS.out, List.length_append, List.length_singleton]; omega, by rw [List.length_set]; exact hM, Lib.hid ⟨?_, fun t ht => ?_⟩, hset, hgr.trans (grown_set wr r A.length _)⟩
            · rw [HNS.out, List.length_append, List.length_singleton, take_set_succ (by omega), HM.out.1]
            · rw [List.getElem?_set, if_neg (by omega)]; exact HM.out.2 t (by omega)
          case measure => simp [intOf]; omega
        · have HNS := Lib.hid (show nots q L (j + 1) = A from hns)
          clear hns hqk hkD
          go_wp2_with (refine wpList_callb (bd := bd) (l := [.int .i64 k]) rfl rfl rfl rfl hf ?_; refine hcall.mono ?_; rintro e w1 ⟨rfl, hw⟩; refine ⟨_, rfl, ?_⟩; rw [hw]; clear hw w1)
          go_roundw
          case rel => exact ⟨j + 1, M, by omega, by omega, by go_num, by rw [HNS.out], by rw [HNS.out]; omega, hM, Lib.hid ⟨by rw [HNS.out]; exact HM.out.1, fun t ht => HM.out.2 t (by omega)⟩, hown, hgr⟩
          case measure => simp [intOf]; omega
      · obtain rfl : j = L.length := by omega
        obtain ⟨cur, hbk, hcs, hct⟩ := hown.size
        have hnl : (nots q L L.length).length ≤ L.length := nots_le _ _ _
        have HMM := Lib.hid hMM.out.1
        generalize hNN : nots q L L.length = NN at *
        have HNN := Lib.hid hNN
        clear hNN hMM
        have hcN : ¬ c = NN.length := by omega
        have bN : (0 : Int) ≤ NN.length := by omega
        have bN1 : (NN.length : Int) ≤ L.length := by omega
        have bN2 : (NN.length : Int) ≤ c := by omega
        have hzv : ∀ w, (zeroValue 3).run Tryz.prog w = .ok (.int .i64 0) w := fun w => by kernel_rfl
        have hd1 : 0 < L.length - NN.length := by omega
        have hd2 : NN.length + (L.length - NN.length) ≤ cur.size := by omega
        go_upto_region 12 with (refine wpList_clear (t := 79) (e := 3) (r := r) (i := NN.length) (n := L.length - NN.length) (c := c - NN.length) Tryz.underlying79 hzv rfl rfl rfl hbk hd1 hd2 ?_; intro C9 w9 hC9 hs9 hp9 hg9)
        have hlenC : C9.size = c := hs9.trans hcs
        have hpre : C9.toList.take NN.length = (ils M).take NN.length := by
          rw [← hct, List.take_take, Nat.min_eq_left (by omega)]
          apply List.ext_getElem?
          intro i
          rw [List.getElem?_take, List.getElem?_take]
          by_cases hi : i < NN.length
          · rw [if_pos hi, if_pos hi, Array.getElem?_toList, Array.getElem?_toList, hp9 i hi]
          · rw [if_neg hi, if_neg hi]
        have hown9 := hown.cut (w' := w9) (i := NN.length) (by omega) hC9 hlenC hpre
        have hils : (ils M).take NN.length = ils NN := by
          have h5 : (ils M).take NN.length = ils (M.take NN.length) := by unfold ils; rw [List.map_take]
          rw [h5, HMM.out]
        rw [hils] at hown9
        have hgr9 := hgr.trans hg9
        go_wp2_with fail
        go_ret
        rw [HNN.out]
        exact ⟨rfl, hown9, hgr9⟩
end Go.Proofs.YtmmfnklnmdhkiaaGreat
/- WorstBalance where the ground is valid and its balances are finite: what is handed back is the balance of a cell that is not fixed. -/
namespace Go.Proofs.YtmmfnklnmdhkiaaGreat
open Go.ChangeShapes Go.WideShapes Go.ChangeAt Go.RowKit
set_option linter.unusedVariables false
set_option linter.unusedSimpArgs false
attribute [local irreducible] Calls
theorem fgt_is (a b : Nat) : (FloatKind.f32.format.order a b == some .gt) = fgt a b := fgt_eq a b
set_option maxRecDepth 100000 in
set_option maxHeartbeats 1000000 in
theorem greatestMem_any (L : List Nat) (ff : Nat → Nat) (r c p : Nat) (w : World) (hL : L.length ≤ 64) (hl : ∀ k, k ∈ L → k < 64) (hn : ∀ k, k ∈ L → isN .f32 (ff k) = false) (hown : Own w r 3 1 (.slice (some ⟨r, 0, none⟩) L.length c) L.length (ils L)) (hp : Blk w p (fls 64 ff).toArray 27) :
    Calls Tryz.prog 49 #[.slice (some ⟨r, 0, none⟩) L.length c, .pointer (some ⟨p, 0, none⟩)] w fun e w' => ∃ x : Int, e = .returned (.int .i64 x) ∧ (x = -1 ∨ ∃ k : Nat, k ∈ L ∧ x = k) ∧ Below w.heap.size w w' := by
  have HL := Lib.hid hl
  have HN := Lib.hid hn
  clear hl hn
  go_enter Tryz.func49, Tryz.ntmps49
  go_upto_region 3 with fail
  go_loopw [5, 10] (fun b i wr => ∃ (j : Nat) (x : Int), j ≤ L.length ∧ i = .int .i64 j ∧ b = .int .i64 x ∧ Hid (x = -1 ∨ ∃ k : Nat, k ∈ L ∧ x = k) ∧ Own wr r 3 1 (.slice (some ⟨r, 0, none⟩) L.length c) L.length (ils L) ∧ Blk wr p (fls 64 ff).toArray 27 ∧ Below w.heap.size w wr) (fun _ i _ => L.length - (intOf i).toNat)
  case atStart => exact ⟨0, -1, by omega, rfl, rfl, Lib.hid (.inl rfl), hown, hp, Below.refl _ _⟩
  case round =>
    clear hown hp
    obtain ⟨j, x, hj, rfl, rfl, hx, hown, hp, hbel⟩ := hrel
    have bj : (0 : Int) ≤ j := by omega
    by_cases hlt : j < L.length
    · have bl : (j : Int) < L.length := by omega
      obtain ⟨k, hk⟩ : ∃ k, L[j]? = some k := ⟨_, List.getElem?_eq_getElem hlt⟩
      have hkm := List.mem_of_getElem? hk
      have HKM := Lib.hid hkm
      have hk64 := HL.out k hkm
      have hnk := HN.out k hkm
      have c0 : wr.cell? ⟨r, j, none⟩ = some (.int .i64 k) := (hown.cell _ (by omega)).trans (ils_get _ _ _ hk)
      have c1 : wr.cell? ⟨p, k, none⟩ = some (.float .f32 (ff k)) := (hp.cell _).trans (by rw [List.getElem?_toArray, fls_get 64 _ k hk64])
      have bk : (0 : Int) ≤ k := by omega
      have bk6 : (k : Int) < 64 := by omega
      have HX : Hid ((k : Int) = -1 ∨ ∃ k' : Nat, k' ∈ L ∧ (k : Int) = k') := Lib.hid (.inr ⟨k, hkm, rfl⟩)
      clear hk hkm
      rcases hx.out with rfl | ⟨k0, hk0, rfl⟩
      · clear hx
        go_upto_region 5 with fail
        go_quiet (fail)
        go_wp2_with fail
        go_roundw
        case rel => exact ⟨j + 1, k, by omega, by go_num, rfl, HX, hown.drewN _, hp.drewN _, below_drewN hbel _⟩
        case measure => simp [intOf]; omega
      · have hk064 := HL.out k0 hk0
        have hs1 := fun w' => size_any (ff k) hnk w'
        have hs2 := fun w' => size_any (ff k0) (HN.out k0 hk0) w'
        have c2 : wr.cell? ⟨p, k0, none⟩ = some (.float .f32 (ff k0)) := (hp.cell _).trans (by rw [List.getElem?_toArray, fls_get 64 _ k0 hk064])
        have b0 : (0 : Int) ≤ k0 := by omega
        have b06 : (k0 : Int) < 64 := by omega
        have b0d : decide ((k0 : Int) < 0) = false := by simp
        clear hk0
        have hgt := fgt_is (fab (ff k)) (fab (ff k0))
        generalize fgt (fab (ff k)) (fab (ff k0)) = B at hgt
        cases B
        · go_upto_region 5 with fail
          go_quiet ((go_at_call 87; first | exact Calls.quiet_of_same (hs1 _) | exact Calls.quiet_of_same (hs2 _)))
          go_wp2_with fail
          go_roundw
          case rel => exact ⟨j + 1, k0, by omega, by go_num, rfl, hx, hown.drewN _, hp.drewN _, below_drewN hbel _⟩
          case measure => simp [intOf]; omega
        · go_upto_region 5 with fail
          go_quiet ((go_at_call 87; first | exact Calls.quiet_of_same (hs1 _) | exact Calls.quiet_of_same (hs2 _)))
          go_wp2_with fail
          go_roundw
          case rel => exact ⟨j + 1, k, by omega, by go_num, rfl, HX, hown.drewN _, hp.drewN _, below_drewN hbel _⟩
          case measure => simp [intOf]; omega
    · obtain rfl : j = L.length := by omega
      go_wp2_with fail
      go_ret
      exact ⟨x, rfl, hx.out, hbel⟩
theorem callFixed : Callable Tryz.prog 52 := ⟨_, Tryz.func52, by kernel_rfl, by kernel_rfl⟩
theorem nots_free {g : Gr} {k : Nat} (h : k ∈ nots (isFx g) (cellsTo g 64) (cellsTo g 64).length) : k < 64 ∧ isC g k = true ∧ isFx g k = false := by
  unfold nots at h
  rw [List.take_length, List.mem_filter] at h
  have h1 := cellsTo_mem.1 h.1
  exact ⟨h1.1, h1.2, by simpa using h.2⟩
set_option maxRecDepth 100000 in
set_option maxHeartbeats 1000000 in
theorem worstBalance_any (g : Gr) (hg : g.ok) (hv : validG g = true) (hbo : balsOk g = true) (w : World) :
    Calls Tryz.prog 17 #[.agg g.cells] w fun e w' => ∃ (k : Int) (x : Nat) (c : Int), e = .returned (.tuple #[.int .i64 k, .float .f32 x, .int .i64 c]) ∧ (c = 6 ∨ (c = 0 ∧ ∃ i : Nat, i < 64 ∧ isC g i = true ∧ isFx g i = false ∧ x = bal g i)) ∧ Below w.heap.size w w' := by
  have hvg := fun w' => validGround_any g hg w'
  rw [hv] at hvg
  have hbl := fun q w' hb => balances_any g q hg (validG_small hv) w' hb
  rw [hbo] at hbl
  have hcl := fun q w' hb => cells_any g q hg w' hb
  have hfx := fun q k hk w' hb => fixed_any g q k hg hk w' hb
  have hlen := cellsTo_length g 64
  have HM : Hid (∀ k, k ∈ cellsTo g 64 → k < 64) := Lib.hid fun k hk => (cellsTo_mem.1 hk).1
  have HNF : Hid (∀ k, k ∈ nots (isFx g) (cellsTo g 64) (cellsTo g 64).length → k < 64 ∧ isC g k = true ∧ isFx g k = false) := Lib.hid fun k hk => nots_free hk
  have HBN : Hid (∀ k, k < 64 → isC g k = true → isN .f32 (bal g k) = false ∧ balF g k = bal g k) := Lib.hid fun k hk hc => ⟨bals_num hbo hk hc, by unfold balF; rw [hc]; rfl⟩
  have hnl := nots_le (isFx g) (cellsTo g 64) (cellsTo g 64).length
  generalize hNE0 : nots (isFx g) (cellsTo g 64) (cellsTo g 64).length = N at *
  have HNE := Lib.hid hNE0
  clear hv hbo hNE0
  go_enter Tryz.func17, Tryz.ntmps17
  go_upto_region 1 with (refine wpList_box_as rfl rfl rfl ?_)
  have hA := Blk.new w g.cells 30
  have hbel := below1 w (.cells g.cells 30)
  generalize w.alloc (.cells g.cells 30) = W at *
  have lA := hA.lt
  go_upto_region 4 with (first | (refine wpList_load_blk rfl rfl rfl row66 hA g.size ?_) | (go_at_call 33; refine (hvg _).mono ?_; rintro e w1 ⟨rfl, hb1⟩; have hA1 := hA.below hb1 lA) | (go_at_call 44; refine (hbl _ _ hA1.gat).mono ?_; rintro e w2 ⟨ff, rfl, hff, hb2⟩) | (refine wpList_alloc_as rfl rfl zero64 ?_) | (refine wpList_store_last rfl rfl rfl rfl rfl (by rw [fls_size]; kernel_rfl) (by rw [fls_size, fls_size]) (List.all_eq_true.2 (fls_one _ _)) ?_))
  have hbx := hb1.trans (hb2.mono hb1.size)
  have hP := Blk.new w2 (fls 64 ff).toArray 27
  have hA := (hA.below hbx lA).alloc (.cells (fls 64 ff).toArray 27)
  have hbel := hbel.trans (hbx.mono hbel.size)
  have hbel := hbel.alloc hbel.size (.cells (fls 64 ff).toArray 27)
  have hff := hff trivial
  have HFF : Hid (∀ k, k < 64 → isC g k = true → ff k = bal g k) := Lib.hid fun k hk hc => by
    obtain ⟨h1, h2⟩ := HBN.out k hk hc
    have h3 := hff k hk
    rw [h2] at h3
    exact al_eq h3 h1
  clear hA1 hb1 hb2 hbx hff hvg hbl
  generalize w2.alloc (.cells (fls 64 ff).toArray 27) = W2 at *
  generalize w2.heap.size = p at *
  have lA := hA.lt
  have lP := hP.lt
  have hdel := fun r c w' hown (hb : GAt w' w.heap.size g) (hne : r ≠ w.heap.size) => deleteFunc_any (isFx g) 52 #[.pointer (some ⟨w.heap.size, 0, none⟩)] (cellsTo g 64) r c w' hlen hown callFixed (fun k w2 hk hg2 => hfx w.heap.size k (HM.out k hk) w2 (hb.grown hg2 (fun e => by injection e; omega)))
  have hNe : Hid (nots (isFx g) (cellsTo g 64) (cellsTo g 64).length = N) := HNE
  rw [hNe.out] at hdel
  go_upto_region 7 with (first | (go_at_call 51; refine (hcl _ _ hA.gat).mono ?_; rintro e w3 ⟨r, cap1, rfl, hr, hown, hb3⟩; have hdl := hdel r cap1 w3 hown (hA.below hb3 lA).gat (by omega)) | (go_at_call 50; refine hdl.mono ?_; rintro e w4 ⟨rfl, hown4, hg4⟩; have hP4 := (hP.below hb3 lP).grown hg4 (fun e => by injection e; omega); have hgr := greatestMem_any N ff r cap1 p w4 (by omega) (fun k hk => (HNF.out k hk).1) (fun k hk => by obtain ⟨q1, q2, q3⟩ := HNF.out k hk; rw [HFF.out k q1 q2]; exact (HBN.out k q1 q2).1) hown4 hP4) | (go_at_call 49; refine hgr.mono ?_; rintro e w5 ⟨x, rfl, hx, hb5⟩))
  have hz := hbel.size
  have hbel := (((hbel.trans (hb3.mono hbel.size)).grown hg4 (by have := hb3.size; omega) (fun k e => by injection e; omega)))
  have hbel := hbel.trans (hb5.mono hbel.size)
  have hP5 := hP4.below hb5 hP4.lt
  clear hdl hgr hdel hcl
  rcases hx with rfl | ⟨k, hk, rfl⟩
  · go_wp2_with fail
    go_ret3
    exact ⟨_, _, _, rfl, .inl rfl, hbel⟩
  · obtain ⟨q1, q2, q3⟩ := HNF.out k hk
    have hfk := HFF.out k q1 q2
    have c1 : w5.cell? ⟨p, k, none⟩ = some (.float .f32 (bal g k)) := by rw [← hfk]; exact (hP5.cell _).trans (by rw [List.getElem?_toArray, fls_get 64 _ k q1])
    have bk : (0 : Int) ≤ k := by omega
    have bk6 : (k : Int) < 64 := by omega
    have b0d : decide ((k : Int) < 0) = false := by simp
    have HK := Lib.hid (And.intro q1 (And.intro q2 q3))
    clear hfk q2 q3 hk
    go_upto_region 9 with fail
    go_quiet (fail)
    go_wp2_with fail
    go_ret3
    exact ⟨_, _, _, rfl, .inr ⟨rfl, k, HK.out.1, HK.out.2.1, HK.out.2.2, rfl⟩, below_drewN hbel _⟩
end Go.Proofs.YtmmfnklnmdhkiaaGreat
/- The same numbers, fields, grounds and lists are the same, as the reference asks it. -/
namespace Go.Proofs.YtmmfnklnmdhkiaaGreat
open Go.ChangeShapes Go.WideShapes Go.ChangeAt Go.RowKit
set_option linter.unusedVariables false
set_option linter.unusedSimpArgs false
attribute [local irreducible] Calls
theorem run_f32bits (b : Nat) (w : World) : (callFunc 95 #[.float .f32 b]).run Tryz.prog w = .ok (.value (.int .u32 b)) w := by
  kernel_rfl
set_option maxRecDepth 100000 in
set_option maxHeartbeats 400000 in
theorem l01Same_self (x : Nat) (w : World) :
    Calls Tryz.prog 70 #[.float .f32 x, .float .f32 x] w fun e w' => e = .returned (.bool true) ∧ w' = w := by
  have hb := run_f32bits x
  cases hn : isN .f32 x
  · have ho := order_self (k := .f32) hn
    go_enter Tryz.func70, Tryz.ntmps70
    go_wp2_with fail
    go_ret
    exact ⟨rfl, rfl⟩
  · have ho := order_nan_left (k := .f32) (x := x) (y := x) hn
    go_enter Tryz.func70, Tryz.ntmps70
    go_wp2_with fail
    go_ret
    exact ⟨rfl, rfl⟩
set_option maxRecDepth 100000 in
set_option maxHeartbeats 400000 in
theorem sameNumber_self (x : Nat) (w : World) :
    Calls Tryz.prog 29 #[.float .f32 x, .float .f32 x] w fun e w' => e = .returned (.bool true) ∧ w' = w := by
  have h := fun w' => l01Same_self x w'
  go_enter Tryz.func29, Tryz.ntmps29
  go_wp2_with (go_at_call 70; refine (h _).mono ?_; rintro e w' ⟨rfl, hw⟩; rw [hw]; clear hw w')
  go_ret
  exact ⟨rfl, rfl⟩
set_option maxRecDepth 100000 in
set_option maxHeartbeats 400000 in
theorem l01SameField_self (p o q u : Nat) (F : Nat → Nat) (w : World) (h1 : ∀ k, k < 64 → w.cell? ⟨p, o + k, none⟩ = some (.float .f32 (F k))) (h2 : ∀ k, k < 64 → w.cell? ⟨q, u + k, none⟩ = some (.float .f32 (F k))) :
    Calls Tryz.prog 79 #[.pointer (some ⟨p, o, none⟩), .pointer (some ⟨q, u, none⟩)] w fun e w' => e = .returned (.bool true) ∧ ∃ n, w' = w.drewN n := by
  have H1 := Lib.hid h1
  have H2 := Lib.hid h2
  clear h1 h2
  go_enter Tryz.func79, Tryz.ntmps79
  go_upto_region 2 with fail
  go_loopw [5] (fun i wr => ∃ (j n : Nat), j ≤ 64 ∧ i = .int .i64 j ∧ wr = w.drewN n) (fun i _ => 64 - (intOf i).toNat)
  case atStart => exact ⟨0, 0, by omega, rfl, rfl⟩
  case round =>
    obtain ⟨j, n, hj, rfl, hw⟩ := hrel
    have bj : (0 : Int) ≤ j := by omega
    rw [hw]
    clear hw wr
    by_cases hlt : j < 64
    · have bl : (j : Int) < 64 := by omega
      have c1 : (w.drewN n).cell? ⟨p, o + j, none⟩ = some (.float .f32 (F j)) := H1.out j hlt
      have c2 : (w.drewN n).cell? ⟨q, u + j, none⟩ = some (.float .f32 (F j)) := H2.out j hlt
      have hs := fun w' => l01Same_self (F j) w'
      generalize hW : w.drewN n = W at *
      go_upto_region 4 with fail
      go_quiet ((go_at_call 70; exact Calls.quiet_of_same (hs _)))
      go_wp2_with fail
      go_roundw
      case rel => exact ⟨j + 1, n + nq, by omega, by go_num, by rw [← hW, World.drewN_drewN]⟩
      case measure => simp [intOf]; omega
    · obtain rfl : j = 64 := by omega
      go_wp2_with fail
      go_ret
      exact ⟨rfl, n, rfl⟩
end Go.Proofs.YtmmfnklnmdhkiaaGreat
