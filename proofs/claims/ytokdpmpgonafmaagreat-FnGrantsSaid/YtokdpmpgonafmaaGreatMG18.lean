import Derived.Test.YtokdpmpgonafmaaGreatMG05
import Derived.Test.YtokdpmpgonafmaaGreatMG03
import Derived.Test.YtokdpmpgonafmaaGreatMG04
import Derived.Test.YtokdpmpgonafmaaGreatMG07
import Derived.Test.YtokdpmpgonafmaaGreatMG09
import Derived.StillTailTactics
/- Watches in memory, and the walks over lists of watches that several laws need. -/
namespace Go.Proofs.YtokdpmpgonafmaaGreat
open Go.ChangeShapes Go.WideShapes Go.ChangeAt Go.RowKit
set_option linter.unusedVariables false
set_option linter.unusedSimpArgs false
attribute [local irreducible] Calls

/-- A watch's numbers. -/
structure Wt where
  cel : Int
  lim : Nat
/-- Each number fits its kind. -/
def Wt.ok (p : Wt) : Prop := -128 ≤ p.cel ∧ p.cel ≤ 127
@[irreducible] def Wt.cells (p : Wt) : Array Value := #[.int .i8 p.cel, .float .f32 p.lim]
theorem Wt.cells_eq (p : Wt) : p.cells = #[.int .i8 p.cel, .float .f32 p.lim] := by unfold Wt.cells; rfl
theorem Wt.cells_size (p : Wt) : p.cells.size = 2 := by rw [p.cells_eq]; rfl
theorem Wt.get0 (p : Wt) : p.cells[0]? = some (.int .i8 p.cel) := by rw [p.cells_eq]; rfl
theorem Wt.get1 (p : Wt) : p.cells[1]? = some (.float .f32 p.lim) := by rw [p.cells_eq]; rfl
theorem Wt.one (p : Wt) : ∀ v ∈ p.cells.toList, v.oneCell' = true := by
  intro v hv; rw [p.cells_eq] at hv; simp at hv; rcases hv with rfl | rfl <;> rfl

/-- n watches, one behind the other. -/
@[irreducible] def wls (n : Nat) (P : Nat → Wt) : List Value := (List.range n).flatMap fun i => (P i).cells.toList
theorem wls_zero (P : Nat → Wt) : wls 0 P = [] := by simp [wls]
theorem wls_succ (n : Nat) (P : Nat → Wt) : wls (n + 1) P = wls n P ++ (P n).cells.toList := by simp [wls, List.range_succ, List.flatMap_append]
theorem wls_length (n : Nat) (P : Nat → Wt) : (wls n P).length = n * 2 := by
  induction n with
  | zero => simp [wls_zero]
  | succ n ih => rw [wls_succ, List.length_append, ih]; simp [Wt.cells_size]; omega
theorem wls_congr {P P' : Nat → Wt} : ∀ {n : Nat}, (∀ i, i < n → P i = P' i) → wls n P = wls n P'
  | 0, _ => by rw [wls_zero, wls_zero]
  | n + 1, h => by rw [wls_succ, wls_succ, wls_congr (fun i hi => h i (by omega)), h n (by omega)]
theorem wls_get (n : Nat) (P : Nat → Wt) (i c : Nat) (h : i < n) (hc : c < 2) : (wls n P)[i * 2 + c]? = (P i).cells[c]? := by
  induction n with
  | zero => omega
  | succ n ih =>
    rw [wls_succ, List.getElem?_append, wls_length]
    by_cases hi : i < n
    · rw [if_pos (by omega), ih hi]
    · obtain rfl : i = n := by omega
      rw [if_neg (by omega), show i * 2 + c - i * 2 = c by omega]; simp
theorem wls_one (n : Nat) (P : Nat → Wt) : ∀ v ∈ wls n P, v.oneCell' = true := by
  intro v hv; unfold wls at hv; simp only [List.mem_flatMap] at hv; obtain ⟨i, _, hi⟩ := hv; exact (P i).one v hi
theorem wls_drop (n : Nat) (P : Nat → Wt) (k : Nat) (h : k < n) : ((wls n P).drop (k * 2)).take 2 = (P k).cells.toList := by
  apply List.ext_getElem?
  intro c
  rw [List.getElem?_take]
  by_cases hc : c < 2
  · rw [if_pos hc, List.getElem?_drop, wls_get n P k c h hc]; simp
  · rw [if_neg hc, List.getElem?_eq_none]; simp [Wt.cells_size]; omega

/-- The slice v holds n watches, P. -/
def WSl (w : World) (v : Value) (n : Nat) (P : Nat → Wt) : Prop :=
  ∃ a cap, v = .slice a n cap ∧ n ≤ cap ∧ cap ≤ maxLen ∧ (n = 0 ∨ ∃ b o, a = some ⟨b, o, none⟩ ∧ b < w.heap.size ∧ ∀ i c, i < n → c < 2 → w.cell? ⟨b, o + i * 2 + c, none⟩ = (P i).cells[c]?)
theorem WSl.below {w w' : World} {v : Value} {n : Nat} {P : Nat → Wt} (h : WSl w v n P) (hb : Below w.heap.size w w') : WSl w' v n P := by
  obtain ⟨a, cap, rfl, h1, h2, h3⟩ := h
  refine ⟨a, cap, rfl, h1, h2, ?_⟩
  rcases h3 with h3 | ⟨b, o, rfl, hlt, hc⟩
  · exact .inl h3
  · exact .inr ⟨b, o, rfl, Nat.lt_of_lt_of_le hlt hb.size, fun i c hi h3 => (hb.cell (p := ⟨b, _, none⟩) hlt).trans (hc i c hi h3)⟩
theorem Own.wsl {w : World} {g : Nat} {e : TypeId} {v : Value} {n : Nat} {P : Nat → Wt} (h : Own w g e 2 v n (wls n P)) : WSl w v n P := by
  obtain ⟨cap, rfl, h1, h2⟩ := h.form
  exact ⟨_, cap, rfl, h1, h2, .inr ⟨g, 0, rfl, h.lt, fun i c hi hc => by rw [Nat.zero_add, h.cell _ (by omega), wls_get n P i c hi hc]⟩⟩

theorem row121 : RowTy Tryz.prog 106 2 := ⟨_, Tryz.underlying106, rfl, by kernel_rfl⟩
theorem size121 : (Tryz.prog.info? 106).map (·.size) = some 2 := by kernel_rfl
theorem zero121 : ZeroTy Tryz.prog 106 (Wt.cells ⟨0, 0⟩) := by unfold ZeroTy Wt.cells; kernel_rfl
theorem row145 : RowTy Tryz.prog 108 2 := ⟨_, Tryz.underlying108, rfl, by kernel_rfl⟩

set_option maxRecDepth 100000 in
set_option maxHeartbeats 400000 in
theorem toWatch_any (p : Wt) (w : World) :
    Calls Tryz.prog 65 #[.agg p.cells] w fun e w' => e = .returned (.agg p.cells) ∧ Below w.heap.size w w' := by
  rw [p.cells_eq]
  go_enter Tryz.func65, Tryz.ntmps65
  go_wp2
  refine bodyPost_ret (v := .agg #[.int .i8 p.cel, .float .f32 p.lim]) (by simp [results, Tryz.results65, go_sem]) rfl ⟨rfl, ?_⟩
  exact below3 _ _ _ _

set_option maxRecDepth 100000 in
set_option maxHeartbeats 400000 in
theorem eqWatch_same (p : Wt) (w : World) :
    Calls Tryz.prog 68 #[.agg p.cells, .agg p.cells] w fun e w' => e = .returned (.bool true) ∧ Below w.heap.size w w' := by
  rw [p.cells_eq]
  have hcv := fun w' => run_convert_widen (P := Tryz.prog) (w := w') 23 135 p.lim Tryz.underlying23 Tryz.underlying135
  go_enter Tryz.func68, Tryz.ntmps68
  go_wp2_with (go_at_call 90; refine (sameFloat_alike _ _ (by rw [cn_fwid, cn_fwid]) _).mono ?_; rintro e w' ⟨rfl, hw⟩; rw [hw]; clear hw w')
  go_ret
  exact ⟨rfl, below_drewN (below2 _ _ _) _⟩

set_option maxRecDepth 100000 in
set_option maxHeartbeats 400000 in
theorem indexWt_any (q : Wt → Bool) (fid : Nat) (cap : Array Value) (n : Nat) (P : Nat → Wt) (v : Value) (w : World) (hv : WSl w v n P) (hf : Callable Tryz.prog fid)
    (hcall : ∀ i w', i < n → Below w.heap.size w w' → Calls Tryz.prog fid (#[.agg (P i).cells] ++ cap) w' fun e w'' => e = .returned (.bool (q (P i))) ∧ Below w'.heap.size w' w'') :
    Calls Tryz.prog 99 #[v, .func (.func fid) #[] cap] w fun e w' => ∃ r : Int, e = .returned (.int .i64 r) ∧ firstTo q P n r ∧ Below w.heap.size w w' := by
  obtain ⟨a, c, rfl, hc1, hc2, hcell⟩ := hv
  unfold maxLen at hc2
  go_enter Tryz.func99, Tryz.ntmps99
  go_wp2
  go_loopw [8] (fun i wr => ∃ k : Nat, k ≤ n ∧ i = .int .i64 k ∧ Hid (∀ j, j < k → q (P j) = false) ∧ Below w.heap.size w wr) (fun i _ => n - (intOf i).toNat)
  case atStart => exact ⟨0, by omega, rfl, Lib.hid fun j hj => by omega, Below.refl _ _⟩
  case round =>
    obtain ⟨k, hk, rfl, hq, hbel⟩ := hrel
    by_cases hlt : k < n
    · obtain ⟨b, o, rfl, hb, hcell⟩ := hcell.resolve_left (by omega)
      have e0 : wr.cell? ⟨b, o + k * 2, none⟩ = some (.int .i8 (P k).cel) := (hbel.cell (p := ⟨b, _, none⟩) hb).trans ((hcell k 0 hlt (by omega)).trans (P k).get0)
      have e1 : wr.cell? ⟨b, o + k * 2 + 1, none⟩ = some (.float .f32 (P k).lim) := (hbel.cell (p := ⟨b, _, none⟩) hb).trans ((hcell k 1 hlt (by omega)).trans (P k).get1)
      have hcall := hcall k wr hlt hbel
      rw [(P k).cells_eq] at hcall
      have hpos : (0 : Int) ≤ k := by omega
      go_wp2_with (refine wpList_callv (cap := cap) (l := [.agg #[.int .i8 (P k).cel, .float .f32 (P k).lim]]) rfl rfl rfl rfl hf ?_; refine hcall.mono ?_; rintro e w1 ⟨rfl, hb1⟩; refine ⟨_, rfl, ?_⟩)
      · have hqk : q (P k) = true := by assumption
        go_ret
        exact ⟨k, rfl, .inr ⟨k, rfl, hlt, hqk, hq.out⟩, hbel.trans (hb1.mono hbel.size)⟩
      · have hqk : q (P k) = false := by assumption
        go_roundw
        case rel => exact ⟨k + 1, by omega, by go_num, Lib.hid (all_step hq.out hqk), hbel.trans (hb1.mono hbel.size)⟩
        case measure => simp [intOf]; omega
    · go_wp2
      go_ret
      exact ⟨-1, rfl, .inl ⟨rfl, fun i hi => hq.out i (by omega)⟩, hbel⟩

set_option maxRecDepth 100000 in
set_option maxHeartbeats 400000 in
theorem containsWt_any (q : Wt → Bool) (fid : Nat) (cap : Array Value) (n : Nat) (P : Nat → Wt) (v : Value) (w : World) (hv : WSl w v n P) (hf : Callable Tryz.prog fid)
    (hcall : ∀ i w', i < n → Below w.heap.size w w' → Calls Tryz.prog fid (#[.agg (P i).cells] ++ cap) w' fun e w'' => e = .returned (.bool (q (P i))) ∧ Below w'.heap.size w' w'') :
    Calls Tryz.prog 94 #[v, .func (.func fid) #[] cap] w fun e w' => e = .returned (.bool (anyTo q P n)) ∧ Below w.heap.size w w' := by
  have hi := indexWt_any q fid cap n P v w hv hf hcall
  clear hcall
  go_enter Tryz.func94, Tryz.ntmps94
  go_wp2_with (go_at_call 99; refine hi.mono ?_; rintro e w1 ⟨r, rfl, hr, hb⟩)
  go_ret
  exact ⟨bool_eq (firstTo_any hr), hb⟩

set_option maxRecDepth 100000 in
set_option maxHeartbeats 400000 in
theorem szWatchS_any (a : Option Addr) (n c : Nat) (left : Int) (hn : n ≤ 9223372036854775807) (h0 : 0 ≤ left) (h1 : left ≤ 1048576) (w : World) :
    Calls Tryz.prog 32 #[.slice a n c, .int .i64 left] w fun e w' => e = .returned (.int .i64 (if left < n then -1 else left - n)) ∧ w' = w := by
  by_cases h : left < n
  · rw [if_pos h]
    go_enter Tryz.func32, Tryz.ntmps32
    go_wp2
    go_ret
    exact ⟨rfl, rfl⟩
  · rw [if_neg h]
    go_enter Tryz.func32, Tryz.ntmps32
    go_wp2
    go_ret
    exact ⟨rfl, rfl⟩

/-- n watchs' room. -/
@[irreducible] def zwt (n : Nat) : Array Value := madeCells (Wt.cells ⟨0, 0⟩) (n * 2)
theorem zwt_size (n : Nat) : (zwt n).size = n * 2 := by unfold zwt; rw [size_madeCells]
theorem elWt : ElemTy Tryz.prog 40 106 2 8 := elem_of (z := .agg (Wt.cells ⟨0, 0⟩)) Tryz.underlying40 (by unfold Wt.cells; kernel_rfl) (Wt.cells_size _)
theorem run_makeWt (n : Nat) (hn : n ≤ 1048576) (w : World) : (Instr.makeSlice 40 (.int .i64 n) (.int .i64 n)).run Tryz.prog w = .ok (.slice (some ⟨w.heap.size, 0, none⟩) n n) (w.alloc (.cells (zwt n) 106)) := by
  obtain ⟨ht, i, z, hi, hz, hs, hb, hzs⟩ := elWt
  have hz2 : z.cells = Wt.cells ⟨0, 0⟩ := by
    have h0 : (Tryz.prog.info? 106).map (·.zero) = some (some (.agg (Wt.cells ⟨0, 0⟩))) := zero121
    rw [hi] at h0
    simp [hz] at h0
    rw [h0]; rfl
  have hr := run_make (P := Tryz.prog) w _ _ i z ht hi hz .i64 .i64 n n (by omega) (Int.le_refl _) (by rw [hb]; omega) (by omega)
  rw [hr, hz2, hs]
  simp [zwt]

/-- A watch behind the walk of one store. -/
theorem zwt_mixed_size (n : Nat) (P : Nat → Wt) (k : Nat) (hk : k ≤ n) : (mixed (wls n P).toArray (zwt n) (k * 2)).size = n * 2 := by
  rw [mixed_size _ _ (by simp [wls_length, zwt_size]) _ (by simp [wls_length]; omega)]; simp [wls_length]

set_option maxRecDepth 100000 in
set_option maxHeartbeats 400000 in
theorem toWatchS_any (n : Nat) (P : Nat → Wt) (v : Value) (hn : n ≤ 1048576) (w : World) (hv : WSl w v n P) :
    Calls Tryz.prog 37 #[v] w fun e w' => ∃ g, e = .returned (.slice (some ⟨g, 0, none⟩) n n) ∧ w.heap.size ≤ g ∧ Own w' g 106 2 (.slice (some ⟨g, 0, none⟩) n n) n (wls n P) ∧ Below w.heap.size w w' := by
  obtain ⟨a, c, rfl, hc1, hc2, hcell⟩ := hv
  unfold maxLen at hc2
  have hmk := run_makeWt n hn
  go_enter Tryz.func37, Tryz.ntmps37
  go_wp2_with fail
  go_loopw [4] (fun i wr => ∃ k : Nat, k ≤ n ∧ i = .int .i64 k ∧ Blk wr w.heap.size (mixed (wls n P).toArray (zwt n) (k * 2)) 106 ∧ Below w.heap.size w wr) (fun i _ => n - (intOf i).toNat)
  case atStart => exact ⟨0, by omega, rfl, by rw [Nat.zero_mul, mixed_zero]; exact Blk.new _ _ _, below1 _ _⟩
  case round =>
    clear hmk
    obtain ⟨k, hk, rfl, hC, hbel⟩ := hrel
    by_cases hlt : k < n
    · obtain ⟨b, o, rfl, hb, hcell⟩ := hcell.resolve_left (by omega)
      have e0 : wr.cell? ⟨b, o + k * 2, none⟩ = some (.int .i8 (P k).cel) := (hbel.cell (p := ⟨b, _, none⟩) hb).trans ((hcell k 0 hlt (by omega)).trans (P k).get0)
      have e1 : wr.cell? ⟨b, o + k * 2 + 1, none⟩ = some (.float .f32 (P k).lim) := (hbel.cell (p := ⟨b, _, none⟩) hb).trans ((hcell k 1 hlt (by omega)).trans (P k).get1)
      clear hcell
      have hpos : (0 : Int) ≤ k := by omega
      have ht := toWatch_any (P k) wr
      rw [(P k).cells_eq] at ht
      have lC := hC.lt
      go_wp2_with (first
        | (go_at_call 65; refine ht.mono ?_; rintro e w1 ⟨rfl, hb1⟩; have hC1 := hC.below hb1 lC)
        | (refine wpList_store_part rfl rfl rfl rfl row121 hC1 ?_ rfl ?_ ?_; (· rw [zwt_mixed_size n P k (by omega)]; omega); (· intro u hu; simp at hu; rcases hu with rfl | rfl <;> rfl)))
      go_roundw
      case rel =>
        refine ⟨k + 1, by omega, by go_num, ?_, below_setRow (hbel.trans (hb1.mono hbel.size)) (Nat.le_refl _) _⟩
        have hsp := splice_mixed (wls n P).toArray (zwt n) (by simp [wls_length, zwt_size]) (k * 2) (P k).cells (by rw [(P k).cells_size]; exact wls_drop n P k hlt) (by rw [(P k).cells_size]; simp [wls_length]; omega)
        rw [(P k).cells_size, show k * 2 + 2 = (k + 1) * 2 by omega, (P k).cells_eq] at hsp
        rw [hsp]
        exact hC1.setRow _
      case measure => simp [intOf]; omega
    · obtain rfl : k = n := by omega
      go_wp2_with fail
      go_ret
      have hm : mixed (wls k P).toArray (zwt k) (k * 2) = (wls k P).toArray := by
        have := mixed_all (wls k P).toArray (zwt k) (by simp [wls_length, zwt_size])
        rwa [show (wls k P).toArray.size = k * 2 by simp [wls_length]] at this
      rw [hm] at hC
      exact ⟨_, rfl, Nat.le_refl _, own_blk hC (by simp [wls_length]) (by unfold maxLen; omega) (by simp), hbel⟩

set_option maxRecDepth 100000 in
set_option maxHeartbeats 400000 in
theorem eqWatchS_same (n : Nat) (P : Nat → Wt) (v u : Value) (w : World) (hv : WSl w v n P) (hu : WSl w u n P) :
    Calls Tryz.prog 42 #[v, u] w fun e w' => e = .returned (.bool true) ∧ Below w.heap.size w w' := by
  obtain ⟨a, c, rfl, hc1, hc2, hcell⟩ := hv
  obtain ⟨a', c', rfl, hc1', hc2', hcell'⟩ := hu
  unfold maxLen at hc2 hc2'
  go_enter Tryz.func42, Tryz.ntmps42
  go_wp2_with fail
  go_loopw [5] (fun i wr => ∃ k : Nat, k ≤ n ∧ i = .int .i64 k ∧ Below w.heap.size w wr) (fun i _ => n - (intOf i).toNat)
  case atStart => exact ⟨0, by omega, rfl, Below.refl _ _⟩
  case round =>
    obtain ⟨k, hk, rfl, hbel⟩ := hrel
    by_cases hlt : k < n
    · obtain ⟨b, o, rfl, hb, hcell⟩ := hcell.resolve_left (by omega)
      obtain ⟨b', o', rfl, hb', hcell'⟩ := hcell'.resolve_left (by omega)
      have e0 : wr.cell? ⟨b, o + k * 2, none⟩ = some (.int .i8 (P k).cel) := (hbel.cell (p := ⟨b, _, none⟩) hb).trans ((hcell k 0 hlt (by omega)).trans (P k).get0)
      have e1 : wr.cell? ⟨b, o + k * 2 + 1, none⟩ = some (.float .f32 (P k).lim) := (hbel.cell (p := ⟨b, _, none⟩) hb).trans ((hcell k 1 hlt (by omega)).trans (P k).get1)
      have e0' : wr.cell? ⟨b', o' + k * 2, none⟩ = some (.int .i8 (P k).cel) := (hbel.cell (p := ⟨b', _, none⟩) hb').trans ((hcell' k 0 hlt (by omega)).trans (P k).get0)
      have e1' : wr.cell? ⟨b', o' + k * 2 + 1, none⟩ = some (.float .f32 (P k).lim) := (hbel.cell (p := ⟨b', _, none⟩) hb').trans ((hcell' k 1 hlt (by omega)).trans (P k).get1)
      clear hcell hcell'
      have ht := fun w' => eqWatch_same (P k) w'
      rw [(P k).cells_eq] at ht
      go_wp2_with fail
      have r1 : ∀ w', Below wr.heap.size wr w' → w'.rangeAt b (o + k * 2) [.int .i8 (P k).cel, .float .f32 (P k).lim] := fun w' hw' j u hu => by
        rw [hw'.cell (p := ⟨b, _, none⟩) (by have := hbel.size; show b < _; omega)]
        match j, hu with
        | 0, hu => rw [← hu]; exact e0
        | 1, hu => rw [← hu]; exact e1
      have r2 : ∀ w', Below wr.heap.size wr w' → w'.rangeAt b' (o' + k * 2) [.int .i8 (P k).cel, .float .f32 (P k).lim] := fun w' hw' j u hu => by
        rw [hw'.cell (p := ⟨b', _, none⟩) (by have := hbel.size; show b' < _; omega)]
        match j, hu with
        | 0, hu => rw [← hu]; exact e0'
        | 1, hu => rw [← hu]; exact e1'
      refine wp_region_below (by kernel_rfl) (by kernel_rfl) ?_
      refine quiet_move rfl rfl rfl rfl ?_
      refine quiet_move rfl rfl rfl rfl ?_
      refine quiet_index rfl rfl rfl rfl rfl Tryz.underlying40 size121 hlt ?_
      refine quiet_part rfl rfl rfl rfl row121 rfl r1 ?_
      refine quiet_move rfl rfl rfl rfl ?_
      refine quiet_move rfl rfl rfl rfl ?_
      refine quiet_index rfl rfl rfl rfl rfl Tryz.underlying40 size121 hlt ?_
      refine quiet_part rfl rfl rfl rfl row121 rfl r2 ?_
      refine quiet_call rfl rfl rfl Tryz.func68 (by kernel_rfl) (by kernel_rfl) rfl (fun w' hw' => (ht w').mono fun e w'' h => ⟨h.1, hw'.trans (h.2.mono hw'.size)⟩) ?_
      refine quiet_not rfl rfl rfl rfl ?_
      refine wpQuiet_nil ?_
      intro w1 hw1
      simp only [List.set_cons_succ, List.set_cons_zero]
      go_wp2_with fail
      go_roundw
      case rel => exact ⟨k + 1, by omega, by go_num, hbel.trans (hw1.mono hbel.size)⟩
      case measure => simp [intOf]; omega
    · go_wp2
      go_ret
      exact ⟨rfl, hbel⟩
end Go.Proofs.YtokdpmpgonafmaaGreat
/- Offices in memory: a ground and its watches. -/
namespace Go.Proofs.YtokdpmpgonafmaaGreat
open Go.ChangeShapes Go.WideShapes Go.ChangeAt Go.RowKit
set_option linter.unusedVariables false
set_option linter.unusedSimpArgs false
attribute [local irreducible] Calls

/-- An office's cells: its ground's, and the slice of its watches. -/
@[irreducible] def ofc (g : Gr) (v : Value) : Array Value := g.cells.push v
theorem ofc_size (g : Gr) (v : Value) : (ofc g v).size = 196 := by unfold ofc; rw [Array.size_push, g.size]
theorem ofc_get (g : Gr) (v : Value) (i : Nat) (h : i < 195) : (ofc g v)[i]? = some (g.at i) := by
  unfold ofc; rw [Array.getElem?_push, g.size, if_neg (by omega), g.get i h]
theorem ofc_last (g : Gr) (v : Value) : (ofc g v)[195]? = some v := by
  unfold ofc; rw [Array.getElem?_push, g.size, if_pos rfl]
theorem ofc_of {cs : Array Value} {g : Gr} {v : Value} (hs : cs.size = 196) (h : ∀ i, i < 195 → cs[i]? = some (g.at i)) (h' : cs[195]? = some v) : cs = ofc g v := by
  apply Array.ext_getElem?
  intro i
  by_cases hi : i < 195
  · rw [h i hi, ofc_get g v i hi]
  · by_cases hi2 : i = 195
    · subst hi2; rw [h', ofc_last]
    · rw [Array.getElem?_eq_none (by omega), Array.getElem?_eq_none (by rw [ofc_size]; omega)]
theorem ofc_one (g : Gr) (v : Value) (hv : v.oneCell' = true) : ∀ u ∈ (ofc g v).toList, u.oneCell' = true := by
  intro u hu
  unfold ofc at hu
  simp only [Array.toList_push, List.mem_append, List.mem_singleton] at hu
  rcases hu with hu | rfl
  · exact g.one u hu
  · exact hv
theorem ofc_ext (g : Gr) (v : Value) : (ofc g v).extract 0 195 = g.cells := by
  apply Gr.cells_of
  · simp [ofc_size]
  · intro i hi
    rw [Array.getElem?_extract, if_pos (by rw [ofc_size]; omega), Nat.zero_add, ofc_get g v i hi]
theorem ofc_splice (z g : Gr) (v : Value) : splice (ofc z v) 0 g.cells = ofc g v := by
  have hle : 0 + g.cells.size ≤ (ofc z v).size := by rw [ofc_size, g.size]; omega
  refine ofc_of (by rw [splice_size _ _ _ hle, ofc_size]) (fun i hi => ?_) ?_
  · rw [splice_get _ _ _ hle, g.size, if_neg (by omega), if_pos (by omega), Nat.sub_zero, g.get i hi]
  · rw [splice_get _ _ _ hle, g.size, if_neg (by omega), if_neg (by omega), ofc_last]
theorem ofc_set (g : Gr) (v u : Value) : (ofc g v).setIfInBounds 195 u = ofc g u := by
  refine ofc_of (by simp [ofc_size]) (fun i hi => ?_) ?_
  · rw [Array.getElem?_setIfInBounds, if_neg (by omega), ofc_get g v i hi]
  · rw [Array.getElem?_setIfInBounds, if_pos rfl, if_pos (by rw [ofc_size]; omega)]
theorem Blk.ogat {w : World} {b : Nat} {g : Gr} {v : Value} {T : TypeId} (h : Blk w b (ofc g v) T) : GAt w b g := ⟨h.lt, fun i hi => (h.cell i).trans (ofc_get g v i hi)⟩
theorem row71 : RowTy Tryz.prog 30 196 := ⟨_, Tryz.underlying30, rfl, by kernel_rfl⟩
theorem row76 : RowTy Tryz.prog 42 196 := ⟨_, Tryz.underlying42, rfl, by kernel_rfl⟩
theorem zero76 : ZeroTy Tryz.prog 42 (ofc ⟨0, 0, fun _ => 0, fun _ => 0, fun _ => 0, 0⟩ (.slice none 0 0)) := by unfold ZeroTy ofc Gr.cells; kernel_rfl

set_option maxRecDepth 100000 in
set_option maxHeartbeats 400000 in
theorem szOffice_any (g : Gr) (a : Option Addr) (n c : Nat) (left : Int) (hn : n ≤ 9223372036854775807) (h0 : 0 ≤ left) (h1 : left ≤ 1048576) (w : World) :
    Calls Tryz.prog 6 #[.agg (ofc g (.slice a n c)), .int .i64 left] w fun e w' => e = .returned (.int .i64 (if left < n then -1 else left - n)) ∧ Below w.heap.size w w' := by
  have hsz := szWatchS_any a n c left hn h0 h1
  generalize hR : (if left < n then -1 else left - n) = R at *
  go_enter Tryz.func6, Tryz.ntmps6
  go_upto_region 1 with (refine wpList_box_as rfl rfl rfl ?_)
  have hA : Blk (w.alloc (.cells (ofc g (.slice a n c)) 30)) w.heap.size (ofc g (.slice a n c)) 30 := Blk.new _ _ _
  have hbel := below1 w (.cells (ofc g (.slice a n c)) 30)
  generalize w.alloc (.cells (ofc g (.slice a n c)) 30) = W at *
  have cS : W.cell? ⟨w.heap.size, 195, none⟩ = some (.slice a n c) := (hA.cell _).trans (ofc_last _ _)
  by_cases h : left < n
  · rw [if_pos h] at hR
    subst hR
    go_wp2_with (go_at_call 32; refine (hsz _).mono ?_; rintro e w' ⟨rfl, hw⟩; rw [hw]; clear hw w')
    go_ret
    exact ⟨rfl, hbel⟩
  · rw [if_neg h] at hR
    subst hR
    have hd : decide (left - n < 0) = false := by simp; omega
    go_wp2_with (go_at_call 32; refine (hsz _).mono ?_; rintro e w' ⟨rfl, hw⟩; rw [hw]; clear hw w')
    go_ret
    exact ⟨rfl, hbel⟩
set_option maxRecDepth 100000 in
set_option maxHeartbeats 400000 in
theorem toOffice_any (g : Gr) (v : Value) (n : Nat) (P : Nat → Wt) (hn : n ≤ 1048576) (w : World) (hv : WSl w v n P) :
    Calls Tryz.prog 9 #[.agg (ofc g v)] w fun e w' => ∃ r, e = .returned (.agg (ofc g (.slice (some ⟨r, 0, none⟩) n n))) ∧ w.heap.size ≤ r ∧ Own w' r 106 2 (.slice (some ⟨r, 0, none⟩) n n) n (wls n P) ∧ Below w.heap.size w w' := by
  obtain ⟨a, c, rfl, hform⟩ := id hv
  clear hform
  have ht := fun w' => toGround_any g w'
  go_enter Tryz.func9, Tryz.ntmps9
  generalize hz : (⟨0, 0, fun _ => 0, fun _ => 0, fun _ => 0, 0⟩ : Gr) = z
  have zero76' := zero76
  rw [hz] at zero76'
  clear hz
  go_upto_region 2 with (first | (refine wpList_alloc_as rfl rfl zero76' ?_) | (refine wpList_box_as rfl rfl rfl ?_))
  have e2 : ((w.alloc (.cells (ofc g (.slice a n c)) 30)).alloc (.cells (ofc z (.slice none 0 0)) 42)).heap.size = w.heap.size + 1 + 1 := by simp
  have e1 : (w.alloc (.cells (ofc g (.slice a n c)) 30)).heap.size = w.heap.size + 1 := by simp
  rw [e2, e1]
  clear e1 e2
  have hA : Blk (((w.alloc (.cells (ofc g (.slice a n c)) 30)).alloc (.cells (ofc z (.slice none 0 0)) 42)).alloc (.cells (ofc z (.slice none 0 0)) 42)) w.heap.size (ofc g (.slice a n c)) 30 := ((Blk.new _ _ _).alloc _).alloc _
  have hB : Blk (((w.alloc (.cells (ofc g (.slice a n c)) 30)).alloc (.cells (ofc z (.slice none 0 0)) 42)).alloc (.cells (ofc z (.slice none 0 0)) 42)) (w.heap.size + 1) (ofc z (.slice none 0 0)) 42 := (Blk.new1 _ _ _ _).alloc _
  have hC : Blk (((w.alloc (.cells (ofc g (.slice a n c)) 30)).alloc (.cells (ofc z (.slice none 0 0)) 42)).alloc (.cells (ofc z (.slice none 0 0)) 42)) (w.heap.size + 1 + 1) (ofc z (.slice none 0 0)) 42 := Blk.new2 _ _ _ _ _
  have hbel := below3 w (.cells (ofc g (.slice a n c)) 30) (.cells (ofc z (.slice none 0 0)) 42) (.cells (ofc z (.slice none 0 0)) 42)
  generalize (((w.alloc (.cells (ofc g (.slice a n c)) 30)).alloc (.cells (ofc z (.slice none 0 0)) 42)).alloc (.cells (ofc z (.slice none 0 0)) 42)) = W at *
  obtain ⟨r, hr⟩ : ∃ r, r = w.heap.size + 1 + 1 := ⟨_, rfl⟩
  obtain ⟨q, hq⟩ : ∃ q, q = w.heap.size + 1 := ⟨_, rfl⟩
  obtain ⟨s, hs⟩ : ∃ s, s = w.heap.size := ⟨_, rfl⟩
  rw [← hr] at hC ⊢
  rw [← hq] at hB ⊢
  rw [← hs] at hA ⊢
  have n1 : s ≠ r := by omega
  have n2 : q ≠ r := by omega
  have n3 : w.heap.size ≤ r := by omega
  have n4 : w.heap.size ≤ q := by omega
  clear hr hq hs
  have lA := hA.lt
  have lB := hB.lt
  have lC := hC.lt
  go_upto_region 3 with (first
    | (refine wpList_load_part rfl rfl rfl row61 hA (by rw [ofc_size]; omega) ?_; rw [Nat.zero_add, ofc_ext])
    | (go_at_call 36; refine (ht _).mono ?_; rintro e W3 ⟨rfl, hb3⟩; have hC3 := hC.below hb3 lC)
    | (refine wpList_store_part rfl rfl rfl rfl row66 hC3 (by rw [ofc_size]; omega) g.size g.one ?_; rw [ofc_splice]))
  have hA := (hA.below hb3 lA).rowOther (ofc g (.slice none 0 0)) n1
  have hB := (hB.below hb3 lB).rowOther (ofc g (.slice none 0 0)) n2
  have hC := hC3.setRow (ofc g (.slice none 0 0))
  have hbel := below_setRow (hbel.trans (hb3.mono hbel.size)) n3 (ofc g (.slice none 0 0))
  clear hC3 hb3 lA lB lC
  generalize W3.setRow r (ofc g (.slice none 0 0)) = W4 at *
  have lA := hA.lt
  have lB := hB.lt
  have lC := hC.lt
  have hto := toWatchS_any n P _ hn W4 (hv.below hbel)
  have cS : W4.cell? ⟨s, 195, none⟩ = some (.slice a n c) := (hA.cell _).trans (ofc_last _ _)
  go_upto_region 4 with (go_at_call 37; refine hto.mono ?_; rintro e W5 ⟨x, rfl, hx, hown, hb5⟩; have hC5 := hC.below hb5 lC; have d5 : W5.cell? ⟨r, 195, none⟩ = some (.slice none 0 0) := (hC5.cell _).trans (ofc_last _ _); have f5 := hC5.free 195)
  have hC := hC5.setCell 195 (.slice (some ⟨x, 0, none⟩) n n)
  rw [ofc_set] at hC
  have hB := (hB.below hb5 lB).setOther (a := ⟨r, 195, none⟩) (.slice (some ⟨x, 0, none⟩) n n) n2
  have hbel := (hbel.trans (hb5.mono hbel.size)).setCell (p := ⟨r, 195, none⟩) n3 (.slice (some ⟨x, 0, none⟩) n n)
  have nx : x ≠ r := by omega
  have nq : x ≠ q := by omega
  have hown := hown.setOther (a := ⟨r, 195, none⟩) (.slice (some ⟨x, 0, none⟩) n n) nx
  have hbs : w.heap.size ≤ x := by
    have h1 : w.heap.size ≤ q := n4
    omega
  clear hb5 hC5 d5 f5 cS hto hA lA
  generalize W5.setCell ⟨r, 195, none⟩ (.slice (some ⟨x, 0, none⟩) n n) = W6 at *
  go_wp2_with (first | (refine wpList_load_blk rfl rfl rfl row76 hC (ofc_size _ _) ?_) | (refine wpList_store_blk rfl rfl rfl rfl row76 hB (ofc_size _ _) (ofc_size _ _) (ofc_one _ _ rfl) ?_))
  exact bodyPost_row rfl rfl row76 (hB.setRow _) (ofc_size _ _) rfl ⟨x, rfl, hbs, hown.rowOther _ nq, below_setRow hbel n4 _⟩
end Go.Proofs.YtokdpmpgonafmaaGreat
