import Derived.Test.YtglimhkpndfjgaaGreatDoorMW24
import Derived.Lib.SliceRun
import Derived.Laws.IdiomCopy
import Derived.Test.YtglimhkpndfjgaaGreatDoorMW01
import Derived.Test.YtglimhkpndfjgaaGreatDoorMW18
import Derived.Test.YtglimhkpndfjgaaGreatDoorMW03
/- slices.DeleteFunc over whole numbers: what is left are those of which the function says no, in their order. -/
namespace Go.Proofs.YtglimhkpndfjgaaGreatDoor
open Go.ChangeShapes Go.WideShapes Go.ChangeAt Go.RowKit
set_option linter.unusedVariables false
set_option linter.unusedSimpArgs false
attribute [local irreducible] Calls
/-- A call of a function value with a receiver bound. -/
theorem wpList_callb {P : Program} {ops : Array Oper} {rest : List Oper} {o : Oper} {a : Act} {Q : Exit → Act → World → Prop} {w : World} {x : Operand} {xs : Array Operand} {ts : Array TypeId} {f : FuncId} {bd : Array Value} {l : List Value} (hgd : o.guard = none) (ho : o.op = .call { callee := .value x, args := xs, argTypes := ts }) (hx : a.eval x = .func (.func f) bd #[]) (ha : xs.toList.map a.eval = l) (hf : Callable P f)
    (h : Calls P f (bd ++ l.toArray) w fun e w' => ∃ v, e = .returned v ∧ wpList P ops Q rest (a.put o.dst v) w') : wpList P ops Q (o :: rest) a w :=
  wpList_plain hgd fun K hK => by
    obtain ⟨fn, hf, hn, hb⟩ := hf
    have e : xs.map a.eval = l.toArray := by rw [← ha, ← Array.toList_map, Array.toArray_toList]
    have hn' : fn.name ≠ "runtime.NumGoroutine" := by simpa using hn
    have hb' : ¬ fn.body = none := by intro h0; rw [h0] at hb; simp at hb
    have hr : (execOp a.eval o).run P w = .ok (.enter f (bd ++ l.toArray)) w := by
      simp [execOp, ho, resolve, e, hx, Deferred.ofValue, invoke, callFunc, hf, hn', hb']
    unfold Oper.wp
    rw [hr]
    exact h.mono fun e w' ⟨v, he, hv⟩ => by subst he; exact hK _ _ hv
/-- Those among the first j of which q says no. -/
def nots (q : Nat → Bool) (L : List Nat) (j : Nat) : List Nat := (L.take j).filter fun k => !q k
theorem nots_succ {q : Nat → Bool} {L : List Nat} {j : Nat} (h : j < L.length) : nots q L (j + 1) = if q (L.getD j 0) then nots q L j else nots q L j ++ [L.getD j 0] := by
  unfold nots
  rw [List.take_add_one, List.getElem?_eq_getElem h, List.filter_append]
  have e : L.getD j 0 = L[j] := by rw [List.getD_eq_getElem?_getD, List.getElem?_eq_getElem h]; rfl
  rw [e]
  cases hq : q L[j] <;> simp [hq]
theorem nots_le (q : Nat → Bool) (L : List Nat) (j : Nat) : (nots q L j).length ≤ j := Nat.le_trans (List.length_filter_le _ _) (by rw [List.length_take]; omega)
theorem nots_none {q : Nat → Bool} {L : List Nat} : ∀ {j : Nat}, j ≤ L.length → (∀ i, i < j → q (L.getD i 0) = false) → nots q L j = L.take j
  | 0, _, _ => by simp [nots]
  | j + 1, hj, h => by
    rw [nots_succ (by omega), h j (by omega), nots_none (by omega) fun i hi => h i (by omega)]
    rw [List.take_add_one, List.getElem?_eq_getElem (by omega : j < L.length), List.getD_eq_getElem?_getD, List.getElem?_eq_getElem (by omega : j < L.length)]
    rfl
theorem setCells_blk (b : Nat) (t : TypeId) : ∀ (vs : List Value) (o : Nat) (w : World) (C : Array Value), Blk w b C t → ∃ C', Blk (w.setCells b o vs) b C' t ∧ C'.size = C.size ∧ ∀ i, i < o → C'[i]? = C[i]?
  | [], o, w, C, h => ⟨C, h, rfl, fun _ _ => rfl⟩
  | v :: vs, o, w, C, h => by
    obtain ⟨C', h1, h2, h3⟩ := setCells_blk b t vs (o + 1) (w.setCell ⟨b, o, none⟩ v) (C.setIfInBounds o v) (h.setCell o v)
    refine ⟨C', h1, by simpa using h2, fun i hi => ?_⟩
    rw [h3 i (by omega), Array.getElem?_setIfInBounds, if_neg (by omega)]
theorem setCells_grown (b : Nat) : ∀ (vs : List Value) (o : Nat) (w : World), w.grownBy (w.setCells b o vs) (some b)
  | [], _, w => World.grownBy.refl _ _
  | v :: vs, o, w => (grown_set w b o v).trans (setCells_grown b vs (o + 1) _)
theorem Own.cut {w w' : World} {g : Nat} {e : TypeId} {n c i : Nat} {xs : List Value} (h : Own w g e 1 (.slice (some ⟨g, 0, none⟩) n c) n xs) (hi : i ≤ n) {C : Array Value} (hb : Blk w' g C e) (hs : C.size = c) (hC : C.toList.take i = xs.take i) : Own w' g e 1 (.slice (some ⟨g, 0, none⟩) i c) i (xs.take i) := by
  obtain ⟨h1, cap, cur, hv, hbk, h2, h3, h4, h5⟩ := h
  injection hv with _ _ hv
  subst hv
  refine ⟨by rw [List.length_take]; omega, c, C, rfl, hb, by omega, h3, by omega, ?_⟩
  rw [Nat.mul_one]; exact hC
theorem Own.size {w : World} {g : Nat} {e : TypeId} {n c : Nat} {xs : List Value} (h : Own w g e 1 (.slice (some ⟨g, 0, none⟩) n c) n xs) : ∃ cur, Blk w g cur e ∧ cur.size = c ∧ cur.toList.take n = xs := by
  obtain ⟨h1, cap, cur, hv, hbk, h2, h3, h4, h5⟩ := h
  injection hv with _ _ hv
  subst hv
  exact ⟨cur, hbk, by omega, by rw [Nat.mul_one] at h5; exact h5⟩
theorem ils_set (M : List Nat) (i k : Nat) : (ils M).set i (.int .i64 k) = ils (M.set i k) := by unfold ils; rw [List.map_set]
theorem take_set_succ {α : Type} {M : List α} {i : Nat} {k : α} (h : i < M.length) : (M.set i k).take (i + 1) = M.take i ++ [k] := by
  rw [List.take_add_one, List.take_set, List.getElem?_set_self h]
  congr 1
  exact List.set_eq_of_length_le (by simp; omega)
/-- 'clear(s[i:])': the cells from i on hold something else. -/
theorem wpList_clear {P : Program} {ops : Array Oper} {rest : List Oper} {o : Oper} {a : Act} {Q : Exit → Act → World → Prop} {w : World} {t e : TypeId} {x : Operand} {r i n c : Nat} {C : Array Value} (ht : P.underlying t = some (.slice e)) (hv : ∀ w, (zeroValue e).run P w = .ok (.int .i64 0) w) (hgd : o.guard = none) (ho : o.op = .call { callee := .builtin .clear, args := #[x], argTypes := #[t] }) (hx : a.eval x = .slice (some ⟨r, i, none⟩) n c) (hb : Blk w r C e) (hn : 0 < n) (hs : i + n ≤ C.size)
    (h : ∀ C' w', Blk w' r C' e → C'.size = C.size → (∀ k, k < i → C'[k]? = C[k]?) → w.grownBy w' (some r) → wpList P ops Q rest (a.put o.dst (.tuple #[])) w') : wpList P ops Q (o :: rest) a w :=
  wpList_plain hgd fun K hK => by
    have hr := Lib.run_clear_slice (P := P) w t e o.type (.int .i64 0) ht hv rfl rfl r i n c hn (fun j hj => by rw [hb.cell]; simp; omega) (fun j _ => hb.free _)
    obtain ⟨C', h1, h2, h3⟩ := setCells_blk r e (List.replicate n (.int .i64 0)) i w C hb
    unfold Oper.wp execOp
    simp only [ho, resolve, invoke, builtin, Sem.run_bind, Sem.run_pure, Result.andThen_ok, List.map_toArray, List.map_cons, List.map_nil, hx, hr]
    exact hK _ _ (h C' _ h1 h2 h3 (setCells_grown r _ _ _))
end Go.Proofs.YtglimhkpndfjgaaGreatDoor
/- WorstBalance where the ground is valid and its balances are finite: what is handed back is the balance of a cell that is not fixed. -/
namespace Go.Proofs.YtglimhkpndfjgaaGreatDoor
open Go.ChangeShapes Go.WideShapes Go.ChangeAt Go.RowKit
set_option linter.unusedVariables false
set_option linter.unusedSimpArgs false
attribute [local irreducible] Calls
theorem fgt_is (a b : Nat) : (FloatKind.f32.format.order a b == some .gt) = fgt a b := fgt_eq a b
theorem nots_free {g : Gr} {k : Nat} (h : k ∈ nots (isFx g) (cellsTo g 64) (cellsTo g 64).length) : k < 64 ∧ isC g k = true ∧ isFx g k = false := by
  unfold nots at h
  rw [List.take_length, List.mem_filter] at h
  have h1 := cellsTo_mem.1 h.1
  exact ⟨h1.1, h1.2, by simpa using h.2⟩
end Go.Proofs.YtglimhkpndfjgaaGreatDoor
/- The bits of the cells, all balances, how great a number is, and whether bytes are too many. -/
namespace Go.Proofs.YtglimhkpndfjgaaGreatDoor
open Go.ChangeShapes Go.WideShapes Go.ChangeAt Go.RowKit
set_option linter.unusedVariables false
set_option linter.unusedSimpArgs false
attribute [local irreducible] Calls
set_option maxRecDepth 100000 in
set_option maxHeartbeats 400000 in
theorem f6big_any (a : Option Addr) (n c : Nat) (hn : n ≤ maxLen) (w : World) :
    Calls Tryz.prog 5 #[.slice a n c] w fun e w' => e = .returned (.bool (decide (4096 < n))) ∧ w' = w := by
  unfold maxLen at hn
  go_enter Tryz.func5, Tryz.ntmps5
  go_wp2_with fail
  go_ret
  refine ⟨bool_eq ?_, rfl⟩
  by_cases h : 4096 < n
  · rw [decide_eq_true h]; simp; omega
  · rw [decide_eq_false h]; simp; omega
def GotB (g : Gr) (w : World) (e : Ending) (w' : World) : Prop := ∃ ff, e = .returned (.tuple #[.agg (fls 64 ff).toArray, .int .i64 0]) ∧ (∀ k, k < 64 → cn (ff k) = cn (balF g k)) ∧ Below w.heap.size w w'
theorem fgt_of_fle {a c : Nat} (h : fle a c = true) : fgt a c = false := by
  unfold fle at h
  unfold fgt
  cases ho : FloatKind.f32.format.order a c with
  | none => rfl
  | some o => rw [ho] at h; cases o <;> first | rfl | simp at h
theorem neg_low (b : Nat) : Op.negFloat .f32 b % 2147483648 = b % 2147483648 := by
  have h : Op.negFloat .f32 b = b ^^^ 2 ^ 31 := rfl
  rw [h]
  have := @Nat.xor_mod_two_pow b (2 ^ 31) 31
  simpa using this
theorem neg_sign (b : Nat) : (Op.negFloat .f32 b / 2147483648 % 2 == 1) = !(b / 2147483648 % 2 == 1) := by
  have h : Op.negFloat .f32 b = b ^^^ 2 ^ 31 := rfl
  have h2 : ∀ x : Nat, (x / 2147483648 % 2 == 1) = x.testBit 31 := fun x => by
    rw [Nat.testBit_eq_decide_div_mod_eq]; rfl
  rw [h2, h2, h, Nat.testBit_xor]
  have : (2 ^ 31 : Nat).testBit 31 = true := by decide
  rw [this, Bool.xor_true]
theorem read_low {b : Nat} (h : b % 2147483648 = 0) : Ieee.single.read b = Ieee.single.read 0 ∨ Ieee.single.read b = Ieee.single.read 2147483648 := by
  have e1 : Ieee.single.signWeight = 2147483648 := single_facts.2.2.2.1
  cases hb : (b / 2147483648 % 2 == 1)
  · left; unfold Ieee.Format.read; rw [e1, hb, h]; rfl
  · right; unfold Ieee.Format.read; rw [e1, hb, h]; rfl
theorem neg_read {b : Nat} (hn : isN .f32 b = false) (h : fle b 0 = true) : Ieee.single.read (Op.negFloat .f32 b) = Ieee.single.read (fab b) ∨ b % 2147483648 = 0 := by
  have hs : (Ieee.single.read b).neg = true ∨ b % 2147483648 = 0 := by
    rcases (fle_zero hn).1 h with ⟨_, hr, _⟩ | ⟨s, m, e, hr, hs⟩
    · left; rw [hr]; rfl
    · rcases hs with rfl | rfl
      · left; rw [hr]; rfl
      · right; exact zero_mag hr
  rcases hs with hs | hs
  · left
    rw [read_sign] at hs
    have hf : (fab b / 2147483648 % 2 == 1) = false := by
      have : fab b / 2147483648 % 2 = 0 := by unfold fab; omega
      rw [this]; rfl
    unfold Ieee.Format.read
    have e1 : Ieee.single.signWeight = 2147483648 := single_facts.2.2.2.1
    have e2 : fab b % 2147483648 = b % 2147483648 := by unfold fab; omega
    rw [e1, neg_sign, hs, hf, neg_low, e2]; rfl
  · exact .inr hs
theorem fgt_low {b : Nat} (h : b % 2147483648 = 0) : fgt b 1073741824 = false := by
  rcases read_low h with h | h
  · rw [fgt_rd h rfl]; kernel_rfl
  · rw [fgt_rd h rfl]; kernel_rfl
theorem fgt_size {b : Nat} (hn : isN .f32 b = false) (hs : fle (fab b) 1073741824 = true) (hz : (FloatKind.f32.format.order b 0 == some .lt) = false) : fgt b 1073741824 = false := by
  cases hl : fle b 0
  · rw [fgt_rd (size_read hn hl) rfl]; exact fgt_of_fle hs
  · have he : FloatKind.f32.format.order b 0 = some .eq := by
      unfold fle at hl; rw [hz] at hl; simpa using hl
    rcases (fle_zero hn).1 hl with ⟨_, hr, _⟩ | ⟨s, m, e, hr, hs⟩
    · unfold Ieee.Format.order at he; simp only [read_f32, read_zero, hr] at he; simp [Ieee.Datum.order] at he
    · by_cases h0 : m = 0
      · subst h0; exact fgt_low (zero_mag hr)
      · rcases hs with rfl | rfl
        · unfold Ieee.Format.order at he; simp only [read_f32, read_zero, hr] at he
          simp only [Ieee.Datum.order, signed_zero] at he
          have := signed_neg h0 (e - min e (-149)).toNat
          have hc : compare (Ieee.signed true m (e - min e (-149)).toNat) 0 = .lt := by rw [Int.compare_eq_lt]; exact this
          simp [hc] at he
        · exact absurd rfl h0
set_option maxRecDepth 100000 in
set_option maxHeartbeats 400000 in
theorem l03Size_any (b : Nat) (h : isN .f32 b = false) (hs : fle (fab b) 1073741824 = true) (w : World) :
    Calls Tryz.prog 82 #[.float .f32 b] w fun e w' => ∃ r, e = .returned (.float .f32 r) ∧ fgt r 1073741824 = false ∧ w' = w := by
  cases hz : (FloatKind.f32.format.order b 0 == some .lt)
  · have HZ := Lib.hid hz
    go_enter Tryz.func82, Tryz.ntmps82
    go_wp2_with fail
    go_ret
    exact ⟨_, rfl, fgt_size h hs HZ.out, rfl⟩
  · have HZ := Lib.hid hz
    go_enter Tryz.func82, Tryz.ntmps82
    go_wp2_with fail
    go_ret
    refine ⟨_, rfl, ?_, rfl⟩
    have hl : fle b 0 = true := by unfold fle; rw [HZ.out]; rfl
    rcases neg_read h hl with hr | hr
    · rw [fgt_rd hr rfl]; exact fgt_of_fle hs
    · exact fgt_low ((neg_low b).trans hr)
end Go.Proofs.YtglimhkpndfjgaaGreatDoor
/- The strongest well: the reference's walk; sizes. -/
namespace Go.Proofs.YtglimhkpndfjgaaGreatDoor
open Go.ChangeShapes Go.WideShapes Go.ChangeAt Go.RowKit
set_option linter.unusedVariables false
set_option linter.unusedSimpArgs false
attribute [local irreducible] Calls
theorem val_abs {b : Nat} (h : b % 2147483648 < 2139095040) : Val Ieee.single b (sg (b / 2147483648 % 2 == 1) (magS (b % 2147483648))) := by
  obtain ⟨hb, hi, hl, hs, hf⟩ := single_facts
  unfold magS
  split
  · rename_i h1
    refine ⟨b / 2147483648 % 2 == 1, b % 2147483648, 0, ?_, by simp⟩
    unfold Ieee.Format.read
    simp only [hs, hb, hi, hl]
    rw [if_pos h1]; simp
  · rename_i h1
    refine ⟨b / 2147483648 % 2 == 1, 8388608 + b % 2147483648 % 8388608, b % 2147483648 / 8388608 - 1, ?_, rfl⟩
    unfold Ieee.Format.read
    simp only [hs, hb, hi, hl]
    rw [if_neg h1, if_pos h]
/-- The size of a number, as the reference reckons it. -/
def szS (b : Nat) : Nat := if (FloatKind.f32.format.order b 0 == some .lt) = true then Op.negFloat .f32 b else b
theorem zero_val : Val Ieee.single 0 0 := ⟨false, 0, 0, by decide +kernel, rfl⟩
theorem val_szS {b : Nat} (h : b % 2147483648 < 2139095040) : Val Ieee.single (szS b) (magS (b % 2147483648) : Int) := by
  have hv := val_abs h
  have ho : FloatKind.f32.format.order b 0 = some (compare (sg (b / 2147483648 % 2 == 1) (magS (b % 2147483648))) 0) := order_val hv zero_val
  unfold szS
  cases hs : (b / 2147483648 % 2 == 1) <;> rw [hs] at hv ho
  · have e : (FloatKind.f32.format.order b 0 == some .lt) = false := by
      rw [ho, cmp_int, if_neg (by unfold sg; simp)]
      split <;> rfl
    rw [e, if_neg Bool.false_ne_true]
    simpa [sg] using hv
  · by_cases h0 : magS (b % 2147483648) = 0
    · have e : (FloatKind.f32.format.order b 0 == some .lt) = false := by rw [ho, h0]; decide
      rw [e, if_neg Bool.false_ne_true]
      rw [h0] at hv ⊢
      simpa [sg] using hv
    · have e : (FloatKind.f32.format.order b 0 == some .lt) = true := by
        rw [ho, cmp_int, if_pos (by unfold sg; simp; omega)]; rfl
      rw [e, if_pos rfl]
      have hn := val_abs (b := Op.negFloat .f32 b) (by rw [neg_low]; exact h)
      rw [neg_sign, hs, neg_low] at hn
      simpa [sg] using hn
theorem fgt_szS {a b : Nat} (ha : Mg a 240) (hb : Mg b 240) : fgt (szS a) (szS b) = decide (b % 2147483648 < a % 2147483648) := by
  have h1 := ha.fin (by omega)
  have h2 := hb.fin (by omega)
  unfold fgt
  rw [show FloatKind.f32.format.order (szS a) (szS b) = Ieee.single.order (szS a) (szS b) from rfl, order_val (val_szS h1) (val_szS h2), cmp_int]
  rcases Nat.lt_trichotomy (a % 2147483648) (b % 2147483648) with h | h | h
  · have k := magS_lt h
    rw [if_pos (by omega), decide_eq_false (by omega)]; rfl
  · rw [h, if_neg (by omega), if_pos rfl]; simp
  · have k := magS_lt h
    rw [if_neg (by omega), if_neg (by omega), decide_eq_true (by omega)]; rfl
set_option maxRecDepth 100000 in
set_option maxHeartbeats 400000 in
theorem l03Size_is (b : Nat) (w : World) :
    Calls Tryz.prog 82 #[.float .f32 b] w fun e w' => e = .returned (.float .f32 (szS b)) ∧ w' = w := by
  unfold szS
  cases hz : (FloatKind.f32.format.order b 0 == some .lt)
  · rw [if_neg Bool.false_ne_true]
    have HZ := Lib.hid hz
    go_enter Tryz.func82, Tryz.ntmps82
    go_wp2_with fail
    go_ret
    exact ⟨rfl, rfl⟩
  · rw [if_pos rfl]
    have HZ := Lib.hid hz
    go_enter Tryz.func82, Tryz.ntmps82
    go_wp2_with fail
    go_ret
    exact ⟨rfl, rfl⟩
set_option maxRecDepth 100000 in
theorem sizeOf_is (b : Nat) (w : World) :
    Calls Tryz.prog 30 #[.float .f32 b] w fun e w' => e = .returned (.float .f32 (szS b)) ∧ w' = w := by
  have h := fun w' => l03Size_is b w'
  go_enter Tryz.func30, Tryz.ntmps30
  go_wp2_with (go_at_call 82; refine (h _).mono ?_; rintro e w' ⟨rfl, hw⟩; rw [hw]; clear hw w')
  go_ret
  exact ⟨rfl, rfl⟩
set_option maxRecDepth 100000 in
set_option maxHeartbeats 1000000 in
theorem specStrongestWell_any (T S : Nat) (hA : AqD T S) (n : Nat) (hn : n ≤ 12) (P : Nat → Wl) (hP : ∀ i, i < n → WlD (P i)) (v : Value) (x y : Int) (hx : 0 ≤ x ∧ x ≤ 7) (hy : 0 ≤ y ∧ y ≤ 7) (time : Nat) (h1 : 1 ≤ time) (h2 : time ≤ 100000) (w : World) (hv : LSl w v n P) :
    Calls Tryz.prog 29 #[.agg #[.float .f32 T, .float .f32 S], v, .int .i64 x, .int .i64 y, .int .i64 time] w fun e w' => e = .returned (bestR n (ddF T S P x y time)) ∧ Below w.heap.size w w' := by
  have hA0 := (Blk.new w #[.float .f32 T, .float .f32 S] 26)
  have hbel := below1 w (.cells #[.float .f32 T, .float .f32 S] 26)
  have hv := hv.below hbel
  have hdd := fun w' hv' => specDrawdownsAt_any T S hA n hn P hP v x y hx hy time h1 h2 w' hv'
  have hm := ddF_mg hA.aq hP hx hy h1 h2
  generalize ddF T S P x y time = F at *
  clear hP
  obtain ⟨R, hR⟩ : ∃ R, bestR n F = R := ⟨_, rfl⟩
  rw [hR]
  go_enter Tryz.func29, Tryz.ntmps29
  go_upto_region 1 with fail
  generalize w.alloc (.cells #[.float .f32 T, .float .f32 S] 26) = W at *
  go_upto_region 2 with (first | (refine wpList_load_blk rfl rfl rfl rowAq hA0 rfl ?_) | (go_at_call 12; refine (hdd _ hv).mono ?_; rintro e w2 ⟨v', g, rfl, hg, hO, hb2⟩))
  obtain ⟨c, rfl, hc1, hc2⟩ := hO.form
  unfold maxLen at hc2
  have hcl : ∀ i, i < n → w2.cell? ⟨g, i, none⟩ = some (.float .f32 (F i)) := fun i hi => (hO.cell i (by omega)).trans (fls_get n F i hi)
  have hb3 := hbel.trans (hb2.mono hbel.size)
  have HC := Lib.hid hcl
  have HM := Lib.hid hm
  clear hcl hm hO hdd hA0 hv hb2 hbel
  by_cases h0 : n = 0
  · subst h0
    have hR0 : R = .tuple #[.int .i64 0, .float .f32 0, .int .i64 6] := hR.symm
    subst hR0
    go_wp2_with fail
    go_ret3
    exact ⟨rfl, hb3⟩
  have bn : (0 : Int) < n := by omega
  have bn2 : ¬ (n : Int) = 0 := by omega
  have hRn : R = .tuple #[.int .i64 (bestTo F n : Nat), .float .f32 (F (bestTo F n)), .int .i64 0] := by rw [← hR]; unfold bestR; rw [if_neg h0]
  clear hR
  go_wp2_with fail
  go_loopw [15, 16] (fun b i wr => ∃ k : Nat, 1 ≤ k ∧ k ≤ n ∧ i = .int .i64 k ∧ b = .int .i64 (bestTo F k : Nat) ∧ ∃ m, wr = w2.drewN m) (fun _ i _ => n - (intOf i).toNat)
  case atStart => exact ⟨1, by omega, by omega, rfl, rfl, 0, rfl⟩
  case round =>
    obtain ⟨k, hk1, hk, rfl, rfl, m, rfl⟩ := hrel
    have bk : (0 : Int) ≤ k := by omega
    by_cases hlt : k < n
    · have bl : (k : Int) < n := by omega
      have e0 := HC.out k hlt
      have hb := bestTo_lt F k (by omega)
      have hstep := bestTo_step F k (by omega)
      have e1 := HC.out (bestTo F k) (by omega)
      have m0 := HM.out k hlt
      have m1 := HM.out (bestTo F k) (by omega)
      have hs1 := fun w' => l03Size_is (F k) w'
      have hs2 := fun w' => l03Size_is (F (bestTo F k)) w'
      have hcmp := fgt_eq (szS (F k)) (szS (F (bestTo F k)))
      rw [fgt_szS m0 m1] at hcmp
      by_cases hgt : F (bestTo F k) % 2147483648 < F k % 2147483648
      · rw [if_pos hgt] at hstep
        rw [decide_eq_true hgt] at hcmp
        clear m0 m1 hgt
        obtain ⟨b, hbb⟩ : ∃ b, bestTo F k = b := ⟨_, rfl⟩
        rw [hbb] at hb e1 hs2 hcmp ⊢
        have bb : (0 : Int) ≤ b := by omega
        have bb2 : (b : Int) < n := by omega
        clear hbb
        have e0 : (w2.drewN m).cell? ⟨g, k, none⟩ = some (.float .f32 (F k)) := e0
        have e1 : (w2.drewN m).cell? ⟨g, b, none⟩ = some (.float .f32 (F b)) := e1
        generalize hW : w2.drewN m = W at *
        go_wp2_with fail
        go_quiet ((go_at_call 82; first | exact Calls.quiet_of_same (hs1 _) | exact Calls.quiet_of_same (hs2 _)))
        go_wp2_with fail
        go_roundw
        case rel => exact ⟨k + 1, by omega, by omega, by go_num, by rw [hstep], _, by rw [← hW]; exact World.drewN_drewN _ _ _⟩
        case measure => simp [intOf]; omega
      · rw [if_neg hgt] at hstep
        rw [decide_eq_false hgt] at hcmp
        clear m0 m1 hgt
        obtain ⟨b, hbb⟩ : ∃ b, bestTo F k = b := ⟨_, rfl⟩
        rw [hbb] at hb e1 hs2 hcmp hstep ⊢
        have bb : (0 : Int) ≤ b := by omega
        have bb2 : (b : Int) < n := by omega
        clear hbb
        have e0 : (w2.drewN m).cell? ⟨g, k, none⟩ = some (.float .f32 (F k)) := e0
        have e1 : (w2.drewN m).cell? ⟨g, b, none⟩ = some (.float .f32 (F b)) := e1
        generalize hW : w2.drewN m = W at *
        go_wp2_with fail
        go_quiet ((go_at_call 82; first | exact Calls.quiet_of_same (hs1 _) | exact Calls.quiet_of_same (hs2 _)))
        go_wp2_with fail
        go_roundw
        case rel => exact ⟨k + 1, by omega, by omega, by go_num, by rw [hstep], _, by rw [← hW]; exact World.drewN_drewN _ _ _⟩
        case measure => simp [intOf]; omega
    · obtain rfl : k = n := by omega
      have hb := bestTo_lt F k (by omega)
      have e1 := HC.out (bestTo F k) hb
      have e1 : (w2.drewN m).cell? ⟨g, bestTo F k, none⟩ = some (.float .f32 (F (bestTo F k))) := e1
      have hb4 := below_drewN hb3 m
      obtain ⟨b, hbb⟩ : ∃ b, bestTo F k = b := ⟨_, rfl⟩
      rw [hbb] at hRn e1 hb ⊢
      clear hbb
      subst hRn
      have bb : (0 : Int) ≤ b := by omega
      have bb2 : (b : Int) < k := by omega
      generalize w2.drewN m = W at *
      go_wp2_with fail
      go_quiet (fail)
      go_wp2_with fail
      go_ret3
      exact ⟨rfl, below_drewN hb4 _⟩
end Go.Proofs.YtglimhkpndfjgaaGreatDoor
/- Numbers that are the same: the program's and the reference's answers. -/
namespace Go.Proofs.YtglimhkpndfjgaaGreatDoor
open Go.ChangeShapes Go.WideShapes Go.ChangeAt Go.RowKit
set_option linter.unusedVariables false
set_option linter.unusedSimpArgs false
attribute [local irreducible] Calls
set_option maxRecDepth 100000 in
set_option maxHeartbeats 400000 in
theorem l01Same_cn {x y : Nat} (h : cn x = cn y) (w : World) :
    Calls Tryz.prog 74 #[.float .f32 x, .float .f32 y] w fun e w' => e = .returned (.bool true) ∧ w' = w := by
  have hb := run_n32bits x
  rcases cnk_eq h with ⟨hx, hy⟩ | ⟨hn, rfl⟩
  · have ho := order_nan_left (k := .f32) (x := x) (y := x) hx
    have hp := order_nan_left (k := .f32) (x := y) (y := y) hy
    go_enter Tryz.func74, Tryz.ntmps74
    go_wp2_with fail
    go_ret
    exact ⟨rfl, rfl⟩
  · have ho := order_self (k := .f32) hn
    go_enter Tryz.func74, Tryz.ntmps74
    go_wp2_with fail
    go_ret
    exact ⟨rfl, rfl⟩
set_option maxRecDepth 100000 in
set_option maxHeartbeats 400000 in
theorem sameNumberS_cn {x y : Nat} (hc : cn x = cn y) (w : World) :
    Calls Tryz.prog 21 #[.float .f32 x, .float .f32 y] w fun e w' => e = .returned (.bool true) ∧ w' = w := by
  have h := fun w' => l01Same_cn hc w'
  go_enter Tryz.func21, Tryz.ntmps21
  go_wp2_with (go_at_call 74; refine (h _).mono ?_; rintro e w' ⟨rfl, hw⟩; rw [hw]; clear hw w')
  go_ret
  exact ⟨rfl, rfl⟩
set_option maxRecDepth 100000 in
set_option maxHeartbeats 800000 in
theorem sameNumberI_cn {x y : Nat} (hc : cn x = cn y) (w : World) :
    Calls Tryz.prog 73 #[.float .f32 x, .float .f32 y] w fun e w' => e = .returned (.bool true) ∧ w' = w := by
  have hb := run_n32bits x
  have h1 := fun w' => isNaN_any x w'
  have h2 := fun w' => isNaN_any y w'
  rcases cnk_eq hc with ⟨hx, hy⟩ | ⟨hn, rfl⟩
  · rw [hx] at h1
    rw [hy] at h2
    go_enter Tryz.func73, Tryz.ntmps73
    go_wp2_with (go_at_call 83; first | (refine (h1 _).mono ?_; rintro e w' ⟨rfl, hw⟩; rw [hw]; clear hw w') | (refine (h2 _).mono ?_; rintro e w' ⟨rfl, hw⟩; rw [hw]; clear hw w'))
    go_ret
    exact ⟨rfl, rfl⟩
  · rw [hn] at h1
    clear h2
    go_enter Tryz.func73, Tryz.ntmps73
    go_wp2_with (go_at_call 83; (refine (h1 _).mono ?_; rintro e w' ⟨rfl, hw⟩; rw [hw]; clear hw w'))
    go_ret
    exact ⟨rfl, rfl⟩
end Go.Proofs.YtglimhkpndfjgaaGreatDoor
/- Lists of numbers, wells that are the same. -/
namespace Go.Proofs.YtglimhkpndfjgaaGreatDoor
open Go.ChangeShapes Go.WideShapes Go.ChangeAt Go.RowKit
set_option linter.unusedVariables false
set_option linter.unusedSimpArgs false
attribute [local irreducible] Calls
set_option maxRecDepth 100000 in
set_option maxHeartbeats 1000000 in
theorem sameNumbers_one (n : Nat) (F : Nat → Nat) (g1 g2 : Nat) (v1 v2 : Value) (w : World) (h1 : Own w g1 24 1 v1 n (fls n F)) (h2 : Own w g2 24 1 v2 n (fls n F)) :
    Calls Tryz.prog 20 #[v1, v2] w fun e w' => e = .returned (.bool true) ∧ ∃ m, w' = w.drewN m := by
  obtain ⟨c1, rfl, hc1, hc2⟩ := h1.form
  obtain ⟨c2, rfl, hc3, hc4⟩ := h2.form
  unfold maxLen at hc2 hc4
  have hcl : ∀ i, i < n → w.cell? ⟨g1, i, none⟩ = some (.float .f32 (F i)) := fun i hi => (h1.cell i (by omega)).trans (fls_get n F i hi)
  have hcl2 : ∀ i, i < n → w.cell? ⟨g2, i, none⟩ = some (.float .f32 (F i)) := fun i hi => (h2.cell i (by omega)).trans (fls_get n F i hi)
  have HC := Lib.hid hcl
  have HC2 := Lib.hid hcl2
  have hnn : ((n : Int) != n) = false := by simp
  clear hcl hcl2 h1 h2
  go_enter Tryz.func20, Tryz.ntmps20
  go_wp2_with fail
  go_loopw [5] (fun i wr => ∃ k : Nat, k ≤ n ∧ i = .int .i64 k ∧ ∃ m, wr = w.drewN m) (fun i _ => n - (intOf i).toNat)
  case atStart => exact ⟨0, by omega, rfl, 0, rfl⟩
  case round =>
    obtain ⟨k, hk, rfl, m, rfl⟩ := hrel
    have bk : (0 : Int) ≤ k := by omega
    by_cases hlt : k < n
    · have bl : (k : Int) < n := by omega
      have e0 : (w.drewN m).cell? ⟨g1, k, none⟩ = some (.float .f32 (F k)) := HC.out k hlt
      have e1 : (w.drewN m).cell? ⟨g2, k, none⟩ = some (.float .f32 (F k)) := HC2.out k hlt
      have hs := fun w' => sameNumberS_cn (x := F k) (y := F k) rfl w'
      generalize hW : w.drewN m = W at *
      go_wp2_with fail
      go_quiet ((go_at_call 21; exact Calls.quiet_of_same (hs _)))
      go_wp2_with fail
      go_roundw
      case rel => exact ⟨k + 1, by omega, by go_num, _, by rw [← hW]; exact World.drewN_drewN _ _ _⟩
      case measure => simp [intOf]; omega
    · obtain rfl : k = n := by omega
      go_wp2_with fail
      go_ret
      exact ⟨rfl, m, rfl⟩
set_option maxRecDepth 100000 in
set_option maxHeartbeats 1000000 in
theorem specSameWells_one (n : Nat) (P : Nat → Wl) (v1 v2 : Value) (w : World) (h1 : LSl w v1 n P) (h2 : LSl w v2 n P) :
    Calls Tryz.prog 17 #[v1, v2] w fun e w' => e = .returned (.bool true) ∧ ∃ m, w' = w.drewN m := by
  obtain ⟨a1, c1, rfl, hc1, hc2, h1⟩ := h1
  obtain ⟨a2, c2, rfl, hc3, hc4, h2⟩ := h2
  unfold maxLen at hc2 hc4
  have HC := Lib.hid h1
  have HC2 := Lib.hid h2
  have hnn : ((n : Int) != n) = false := by simp
  clear h1 h2
  go_enter Tryz.func17, Tryz.ntmps17
  go_wp2_with fail
  go_loopw [5] (fun i wr => ∃ k : Nat, k ≤ n ∧ i = .int .i64 k ∧ ∃ m, wr = w.drewN m) (fun i _ => n - (intOf i).toNat)
  case atStart => exact ⟨0, by omega, rfl, 0, rfl⟩
  case round =>
    obtain ⟨k, hk, rfl, m, rfl⟩ := hrel
    have bk : (0 : Int) ≤ k := by omega
    by_cases hlt : k < n
    · have bl : (k : Int) < n := by omega
      obtain ⟨b, o, rfl, hb, hcell⟩ := HC.out.resolve_left (by omega)
      obtain ⟨b', o', rfl, hb', hcell'⟩ := HC2.out.resolve_left (by omega)
      have e0 : (w.drewN m).cell? ⟨b, o + k * 3, none⟩ = some (.int .i8 (P k).px) := (hcell k 0 hlt (by omega)).trans (P k).get0
      have e1 : (w.drewN m).cell? ⟨b, o + k * 3 + 1, none⟩ = some (.int .i8 (P k).py) := (hcell k 1 hlt (by omega)).trans (P k).get1
      have e2 : (w.drewN m).cell? ⟨b, o + k * 3 + 2, none⟩ = some (.float .f32 (P k).rt) := (hcell k 2 hlt (by omega)).trans (P k).get2
      have f0 : (w.drewN m).cell? ⟨b', o' + k * 3, none⟩ = some (.int .i8 (P k).px) := (hcell' k 0 hlt (by omega)).trans (P k).get0
      have f1 : (w.drewN m).cell? ⟨b', o' + k * 3 + 1, none⟩ = some (.int .i8 (P k).py) := (hcell' k 1 hlt (by omega)).trans (P k).get1
      have f2 : (w.drewN m).cell? ⟨b', o' + k * 3 + 2, none⟩ = some (.float .f32 (P k).rt) := (hcell' k 2 hlt (by omega)).trans (P k).get2
      have hs := fun w' => sameNumberS_cn (x := (P k).rt) (y := (P k).rt) rfl w'
      have n1 : ((P k).px != (P k).px) = false := by simp
      have n2 : ((P k).py != (P k).py) = false := by simp
      clear hcell hcell'
      generalize hW : w.drewN m = W at *
      go_wp2_with fail
      go_quiet ((go_at_call 21; exact Calls.quiet_of_same (hs _)))
      go_wp2_with fail
      go_roundw
      case rel => exact ⟨k + 1, by omega, by go_num, _, by rw [← hW]; exact World.drewN_drewN _ _ _⟩
      case measure => simp [intOf]; omega
    · obtain rfl : k = n := by omega
      go_wp2_with fail
      go_ret
      exact ⟨rfl, m, rfl⟩
end Go.Proofs.YtglimhkpndfjgaaGreatDoor
