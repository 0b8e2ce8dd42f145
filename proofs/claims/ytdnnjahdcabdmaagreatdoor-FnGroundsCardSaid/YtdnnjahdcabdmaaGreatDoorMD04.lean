import Derived.Test.YtdnnjahdcabdmaaGreatDoorMD02
import Derived.Laws.MakeOwn
/- Permits in memory, and the walks over lists of permits that several laws need. -/
namespace Go.Proofs.YtdnnjahdcabdmaaGreatDoor
open Go.ChangeShapes Go.WideShapes Go.ChangeAt Go.RowKit
set_option linter.unusedVariables false

/-- A permit's numbers. -/
structure Pm where
  own : Int
  cel : Int
  rat : Int
/-- Each number fits its kind. -/
def Pm.ok (p : Pm) : Prop := (-128 ≤ p.own ∧ p.own ≤ 127) ∧ (-128 ≤ p.cel ∧ p.cel ≤ 127) ∧ (-32768 ≤ p.rat ∧ p.rat ≤ 32767)
@[irreducible] def Pm.cells (p : Pm) : Array Value := #[.int .i8 p.own, .int .i8 p.cel, .int .i16 p.rat]
theorem Pm.cells_eq (p : Pm) : p.cells = #[.int .i8 p.own, .int .i8 p.cel, .int .i16 p.rat] := by unfold Pm.cells; rfl
theorem Pm.cells_size (p : Pm) : p.cells.size = 3 := by rw [p.cells_eq]; rfl
theorem Pm.get0 (p : Pm) : p.cells[0]? = some (.int .i8 p.own) := by rw [p.cells_eq]; rfl
theorem Pm.get1 (p : Pm) : p.cells[1]? = some (.int .i8 p.cel) := by rw [p.cells_eq]; rfl
theorem Pm.get2 (p : Pm) : p.cells[2]? = some (.int .i16 p.rat) := by rw [p.cells_eq]; rfl
theorem Pm.one (p : Pm) : ∀ v ∈ p.cells.toList, v.oneCell' = true := by
  intro v hv; rw [p.cells_eq] at hv; simp at hv; rcases hv with rfl | rfl | rfl <;> rfl

/-- n permits, one behind the other. -/
@[irreducible] def pls (n : Nat) (P : Nat → Pm) : List Value := (List.range n).flatMap fun i => (P i).cells.toList
theorem pls_zero (P : Nat → Pm) : pls 0 P = [] := by simp [pls]
theorem pls_succ (n : Nat) (P : Nat → Pm) : pls (n + 1) P = pls n P ++ (P n).cells.toList := by simp [pls, List.range_succ, List.flatMap_append]
theorem pls_length (n : Nat) (P : Nat → Pm) : (pls n P).length = n * 3 := by
  induction n with
  | zero => simp [pls_zero]
  | succ n ih => rw [pls_succ, List.length_append, ih]; simp [Pm.cells_size]; omega
theorem pls_congr {P P' : Nat → Pm} : ∀ {n : Nat}, (∀ i, i < n → P i = P' i) → pls n P = pls n P'
  | 0, _ => by rw [pls_zero, pls_zero]
  | n + 1, h => by rw [pls_succ, pls_succ, pls_congr (fun i hi => h i (by omega)), h n (by omega)]
theorem pls_get (n : Nat) (P : Nat → Pm) (i c : Nat) (h : i < n) (hc : c < 3) : (pls n P)[i * 3 + c]? = (P i).cells[c]? := by
  induction n with
  | zero => omega
  | succ n ih =>
    rw [pls_succ, List.getElem?_append, pls_length]
    by_cases hi : i < n
    · rw [if_pos (by omega), ih hi]
    · obtain rfl : i = n := by omega
      rw [if_neg (by omega), show i * 3 + c - i * 3 = c by omega]; simp
theorem pls_one (n : Nat) (P : Nat → Pm) : ∀ v ∈ pls n P, v.oneCell' = true := by
  intro v hv; unfold pls at hv; simp only [List.mem_flatMap] at hv; obtain ⟨i, _, hi⟩ := hv; exact (P i).one v hi
theorem pls_drop (n : Nat) (P : Nat → Pm) (k : Nat) (h : k < n) : ((pls n P).drop (k * 3)).take 3 = (P k).cells.toList := by
  apply List.ext_getElem?
  intro c
  rw [List.getElem?_take]
  by_cases hc : c < 3
  · rw [if_pos hc, List.getElem?_drop, pls_get n P k c h hc]; simp
  · rw [if_neg hc, List.getElem?_eq_none]; simp [Pm.cells_size]; omega

/-- The slice v holds n permits, P. -/
def PSl (w : World) (v : Value) (n : Nat) (P : Nat → Pm) : Prop :=
  ∃ a cap, v = .slice a n cap ∧ n ≤ cap ∧ cap ≤ maxLen ∧ (n = 0 ∨ ∃ b o, a = some ⟨b, o, none⟩ ∧ b < w.heap.size ∧ ∀ i c, i < n → c < 3 → w.cell? ⟨b, o + i * 3 + c, none⟩ = (P i).cells[c]?)
theorem PSl.below {w w' : World} {v : Value} {n : Nat} {P : Nat → Pm} (h : PSl w v n P) (hb : Below w.heap.size w w') : PSl w' v n P := by
  obtain ⟨a, cap, rfl, h1, h2, h3⟩ := h
  refine ⟨a, cap, rfl, h1, h2, ?_⟩
  rcases h3 with h3 | ⟨b, o, rfl, hlt, hc⟩
  · exact .inl h3
  · exact .inr ⟨b, o, rfl, Nat.lt_of_lt_of_le hlt hb.size, fun i c hi h3 => (hb.cell (p := ⟨b, _, none⟩) hlt).trans (hc i c hi h3)⟩
theorem Own.psl {w : World} {g : Nat} {e : TypeId} {v : Value} {n : Nat} {P : Nat → Pm} (h : Own w g e 3 v n (pls n P)) : PSl w v n P := by
  obtain ⟨cap, rfl, h1, h2⟩ := h.form
  exact ⟨_, cap, rfl, h1, h2, .inr ⟨g, 0, rfl, h.lt, fun i c hi hc => by rw [Nat.zero_add, h.cell _ (by omega), pls_get n P i c hi hc]⟩⟩

theorem row99 : RowTy Tryz.prog 59 3 := ⟨_, Tryz.underlying59, rfl, by kernel_rfl⟩
theorem size99 : (Tryz.prog.info? 59).map (·.size) = some 3 := by kernel_rfl
theorem zero99 : ZeroTy Tryz.prog 59 (Pm.cells ⟨0, 0, 0⟩) := by unfold ZeroTy Pm.cells; kernel_rfl
theorem bool_eq {a b : Bool} (h : a = b) : Ending.returned (.bool a) = Ending.returned (.bool b) := by rw [h]

/-- What 'eqPermit' says. -/
def eqPm (p q : Pm) : Bool := p.own == q.own && p.cel == q.cel && p.rat == q.rat
theorem isRate_any (n : Int) (w : World) (h : -32768 ≤ n ∧ n ≤ 32767) :
    Calls Tryz.prog 64 #[.int .i16 n] w fun e w' => e = .returned (.bool (decide (0 ≤ n) && decide (n ≤ 400))) ∧ w' = w := by
  go_enter Tryz.func64, Tryz.ntmps64
  go_wp2_with (go_at_call 88; refine (in_any _ _ _ _).mono ?_; rintro e w' ⟨rfl, rfl⟩)
  go_ret
  exact ⟨rfl, rfl⟩
theorem isOwner_any (n : Int) (w : World) (h : -128 ≤ n ∧ n ≤ 127) :
    Calls Tryz.prog 63 #[.int .i8 n] w fun e w' => e = .returned (.bool (decide (0 ≤ n) && decide (n ≤ 7))) ∧ w' = w := by
  go_enter Tryz.func63, Tryz.ntmps63
  go_wp2_with (go_at_call 88; refine (in_any _ _ _ _).mono ?_; rintro e w' ⟨rfl, rfl⟩)
  go_ret
  exact ⟨rfl, rfl⟩
/-- A rate that is none, an owner that is none. -/
def badRate (p : Pm) : Bool := !decide (0 ≤ p.rat) || !decide (p.rat ≤ 400)
def badOwner (p : Pm) : Bool := !decide (0 ≤ p.own) || !decide (p.own ≤ 7)
theorem ratesOk1_any (p : Pm) (hp : p.ok) (w : World) :
    Calls Tryz.prog 116 #[.agg p.cells] w fun e w' => e = .returned (.bool (badRate p)) ∧ Below w.heap.size w w' := by
  obtain ⟨h1, h2, h3⟩ := hp
  rw [p.cells_eq]
  go_enter Tryz.func116, Tryz.ntmps116
  go_wp2_with (go_at_call 64; refine (isRate_any _ _ h3).mono ?_; rintro e w' ⟨rfl, rfl⟩)
  go_ret
  exact ⟨rfl, below1 _ _⟩
theorem shares1_any (p : Pm) (hp : p.ok) (w : World) :
    Calls Tryz.prog 68 #[.agg p.cells] w fun e w' => e = .returned (.bool (badOwner p)) ∧ Below w.heap.size w w' := by
  obtain ⟨h1, h2, h3⟩ := hp
  rw [p.cells_eq]
  go_enter Tryz.func68, Tryz.ntmps68
  go_wp2_with (go_at_call 63; refine (isOwner_any _ _ h1).mono ?_; rintro e w' ⟨rfl, rfl⟩)
  go_ret
  exact ⟨rfl, below1 _ _⟩

/-- Does one of the first n answer yes? -/
def anyTo {α : Type} (q : α → Bool) (P : Nat → α) : Nat → Bool
  | 0 => false
  | n + 1 => anyTo q P n || q (P n)
theorem anyTo_false {α : Type} {q : α → Bool} {P : Nat → α} {n : Nat} : anyTo q P n = false ↔ ∀ i, i < n → q (P i) = false := by
  induction n with
  | zero => simp [anyTo]
  | succ n ih =>
    simp only [anyTo, Bool.or_eq_false_iff, ih]
    constructor
    · intro ⟨h1, h2⟩ i hi
      by_cases h : i < n
      · exact h1 i h
      · obtain rfl : i = n := by omega
        exact h2
    · intro h; exact ⟨fun i hi => h i (by omega), h n (by omega)⟩
theorem anyTo_true {α : Type} {q : α → Bool} {P : Nat → α} {n i : Nat} (hi : i < n) (h : q (P i) = true) : anyTo q P n = true := by
  cases hn : anyTo q P n
  · rw [anyTo_false.1 hn i hi] at h; cases h
  · rfl
theorem all_step {p : Nat → Prop} {k : Nat} (h : ∀ j, j < k → p j) (hk : p k) : ∀ j, j < k + 1 → p j := by
  intro j hj
  by_cases hjk : j < k
  · exact h j hjk
  · obtain rfl : j = k := by omega
    exact hk
/-- The first of the first n that answers yes. -/
def firstTo {α : Type} (q : α → Bool) (P : Nat → α) (n : Nat) (r : Int) : Prop := (r = -1 ∧ ∀ i, i < n → q (P i) = false) ∨ ∃ k : Nat, r = k ∧ k < n ∧ q (P k) = true ∧ ∀ i, i < k → q (P i) = false

set_option maxRecDepth 100000 in
set_option maxHeartbeats 400000 in
theorem indexPm_any (q : Pm → Bool) (fid : Nat) (cap : Array Value) (n : Nat) (P : Nat → Pm) (v : Value) (w : World) (hv : PSl w v n P) (hf : Callable Tryz.prog fid)
    (hcall : ∀ i w', i < n → Below w.heap.size w w' → Calls Tryz.prog fid (#[.agg (P i).cells] ++ cap) w' fun e w'' => e = .returned (.bool (q (P i))) ∧ Below w'.heap.size w' w'') :
    Calls Tryz.prog 114 #[v, .func (.func fid) #[] cap] w fun e w' => ∃ r : Int, e = .returned (.int .i64 r) ∧ firstTo q P n r ∧ Below w.heap.size w w' := by
  obtain ⟨a, c, rfl, hc1, hc2, hcell⟩ := hv
  unfold maxLen at hc2
  go_enter Tryz.func114, Tryz.ntmps114
  go_wp2
  go_loopw [8] (fun i wr => ∃ k : Nat, k ≤ n ∧ i = .int .i64 k ∧ Hid (∀ j, j < k → q (P j) = false) ∧ Below w.heap.size w wr) (fun i _ => n - (intOf i).toNat)
  case atStart => exact ⟨0, by omega, rfl, Lib.hid fun j hj => by omega, Below.refl _ _⟩
  case round =>
    obtain ⟨k, hk, rfl, hq, hbel⟩ := hrel
    by_cases hlt : k < n
    · obtain ⟨b, o, rfl, hb, hcell⟩ := hcell.resolve_left (by omega)
      have e0 : wr.cell? ⟨b, o + k * 3, none⟩ = some (.int .i8 (P k).own) := (hbel.cell (p := ⟨b, _, none⟩) hb).trans ((hcell k 0 hlt (by omega)).trans (P k).get0)
      have e1 : wr.cell? ⟨b, o + k * 3 + 1, none⟩ = some (.int .i8 (P k).cel) := (hbel.cell (p := ⟨b, _, none⟩) hb).trans ((hcell k 1 hlt (by omega)).trans (P k).get1)
      have e2 : wr.cell? ⟨b, o + k * 3 + 2, none⟩ = some (.int .i16 (P k).rat) := (hbel.cell (p := ⟨b, _, none⟩) hb).trans ((hcell k 2 hlt (by omega)).trans (P k).get2)
      have hcall := hcall k wr hlt hbel
      rw [(P k).cells_eq] at hcall
      have hpos : (0 : Int) ≤ k := by omega
      go_wp2_with (refine wpList_callv (cap := cap) (l := [.agg #[.int .i8 (P k).own, .int .i8 (P k).cel, .int .i16 (P k).rat]]) rfl rfl rfl rfl hf ?_; refine hcall.mono ?_; rintro e w1 ⟨rfl, hb1⟩; refine ⟨_, rfl, ?_⟩)
      · have hqk : q (P k) = true := by assumption
        go_ret
        exact ⟨k, rfl, .inr ⟨k, rfl, hlt, hqk, hq.out⟩, hbel.trans (hb1.mono hbel.size)⟩
      · have hqk : q (P k) = false := by assumption
        go_roundw
        case rel => exact ⟨k + 1, by omega, by go_num, Lib.hid (all_step hq.out hqk), hbel.trans (hb1.mono hbel.size)⟩
        case measure => simp [intOf]; omega
    · go_wp2
      go_ret
      exact ⟨-1, rfl, .inl ⟨rfl, fun i hi => hq.out i (by omega)⟩, hbel⟩

theorem firstTo_any {α : Type} {q : α → Bool} {P : Nat → α} {n : Nat} {r : Int} (h : firstTo q P n r) : decide (0 ≤ r) = anyTo q P n := by
  rcases h with ⟨rfl, h⟩ | ⟨k, rfl, hk, hq, _⟩
  · rw [anyTo_false.2 h]; rfl
  · rw [anyTo_true hk hq]; simp

set_option maxRecDepth 100000 in
set_option maxHeartbeats 400000 in
theorem containsPm_any (q : Pm → Bool) (fid : Nat) (cap : Array Value) (n : Nat) (P : Nat → Pm) (v : Value) (w : World) (hv : PSl w v n P) (hf : Callable Tryz.prog fid)
    (hcall : ∀ i w', i < n → Below w.heap.size w w' → Calls Tryz.prog fid (#[.agg (P i).cells] ++ cap) w' fun e w'' => e = .returned (.bool (q (P i))) ∧ Below w'.heap.size w' w'') :
    Calls Tryz.prog 61 #[v, .func (.func fid) #[] cap] w fun e w' => e = .returned (.bool (anyTo q P n)) ∧ Below w.heap.size w w' := by
  have hi := indexPm_any q fid cap n P v w hv hf hcall
  clear hcall
  go_enter Tryz.func61, Tryz.ntmps61
  go_wp2_with (go_at_call 114; refine hi.mono ?_; rintro e w1 ⟨r, rfl, hr, hb⟩)
  go_ret
  exact ⟨bool_eq (firstTo_any hr), hb⟩

/-- May these be permits' rates? -/
def ratesAre (n : Nat) (P : Nat → Pm) : Bool := decide (n ≤ 6) && !anyTo badRate P n
theorem callRates : Callable Tryz.prog 116 := ⟨_, Tryz.func116, by kernel_rfl, by kernel_rfl⟩
theorem callShares : Callable Tryz.prog 68 := ⟨_, Tryz.func68, by kernel_rfl, by kernel_rfl⟩

set_option maxRecDepth 100000 in
set_option maxHeartbeats 400000 in
theorem ratesOk_any (n : Nat) (P : Nat → Pm) (hP : ∀ i, i < n → (P i).ok) (v : Value) (w : World) (hv : PSl w v n P) :
    Calls Tryz.prog 67 #[v] w fun e w' => e = .returned (.bool (ratesAre n P)) ∧ Below w.heap.size w w' := by
  have hi := containsPm_any badRate 116 #[] n P v w hv callRates (fun i w' hi hb => ratesOk1_any (P i) (hP i hi) w')
  obtain ⟨a, c, rfl, hc1, hc2, hcell⟩ := hv
  unfold maxLen at hc2
  clear hcell
  by_cases h6 : n ≤ 6
  · have H6 := Lib.hid h6
    have hd : decide ((n : Int) ≤ 6) = true := by simp; omega
    go_enter Tryz.func67, Tryz.ntmps67
    go_wp2_with (go_at_call 61; refine hi.mono ?_; rintro e w1 ⟨rfl, hb⟩)
    go_ret
    exact ⟨bool_eq (by unfold ratesAre; simp [H6.out]), hb⟩
  · have hd : decide ((n : Int) ≤ 6) = false := by simp; omega
    go_enter Tryz.func67, Tryz.ntmps67
    go_wp2_with fail
    go_ret
    exact ⟨bool_eq (by unfold ratesAre; simp [h6]), Below.refl _ _⟩

/-- n permits' room. -/
@[irreducible] def zpm (n : Nat) : Array Value := madeCells (Pm.cells ⟨0, 0, 0⟩) (n * 3)
theorem zpm_size (n : Nat) : (zpm n).size = n * 3 := by unfold zpm; rw [size_madeCells]
theorem elPm : ElemTy Tryz.prog 35 59 3 4 := elem_of (z := .agg (Pm.cells ⟨0, 0, 0⟩)) Tryz.underlying35 (by unfold Pm.cells; kernel_rfl) (Pm.cells_size _)
theorem run_makePm (n : Nat) (hn : n ≤ 1048576) (w : World) : (Instr.makeSlice 35 (.int .i64 n) (.int .i64 n)).run Tryz.prog w = .ok (.slice (some ⟨w.heap.size, 0, none⟩) n n) (w.alloc (.cells (zpm n) 59)) := by
  obtain ⟨ht, i, z, hi, hz, hs, hb, hzs⟩ := elPm
  have hz2 : z.cells = Pm.cells ⟨0, 0, 0⟩ := by
    have h0 : (Tryz.prog.info? 59).map (·.zero) = some (some (.agg (Pm.cells ⟨0, 0, 0⟩))) := zero99
    rw [hi] at h0
    simp [hz] at h0
    rw [h0]; rfl
  have hr := run_make (P := Tryz.prog) w _ _ i z ht hi hz .i64 .i64 n n (by omega) (Int.le_refl _) (by rw [hb]; omega) (by omega)
  rw [hr, hz2, hs]
  simp [zpm]

/-- A permit behind the walk of one store. -/
theorem zpm_mixed_size (n : Nat) (P : Nat → Pm) (k : Nat) (hk : k ≤ n) : (mixed (pls n P).toArray (zpm n) (k * 3)).size = n * 3 := by
  rw [mixed_size _ _ (by simp [pls_length, zpm_size]) _ (by simp [pls_length]; omega)]; simp [pls_length]

end Go.Proofs.YtdnnjahdcabdmaaGreatDoor
